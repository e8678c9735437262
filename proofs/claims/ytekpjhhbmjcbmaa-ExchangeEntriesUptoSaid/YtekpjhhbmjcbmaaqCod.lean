/-
The types of this seat's program, as the evaluator asks them, and how their data are told. Written by wip/tools/gen2.py.
-/
import Derived.Test.YtekpjhhbmjcbmaaProg
import Derived.Test.YtekpjhhbmjcbmaaqTvR
import Derived.KernelRfl
set_option linter.unusedVariables false
set_option linter.unusedSimpArgs false
set_option maxHeartbeats 8000000
set_option maxRecDepth 100000
namespace Go.Proofs.Ytekpjhhbmjcbmaa
open Go Go.Ev
def ti2 : TI := ⟨.int .i64, 1, 8, [.v (.int .i64 0)]⟩
def ti3 : TI := ⟨.int .i64, 1, 8, [.v (.int .i64 0)]⟩
def ti4 : TI := ⟨.bool, 1, 1, [.v (.bool false)]⟩
def ti5 : TI := ⟨.int .u8, 1, 1, [.v (.int .u8 0)]⟩
def ti9 : TI := ⟨.string, 1, 16, [.v (.string ⟨#[]⟩)]⟩
def ti12 : TI := ⟨.int .u64, 1, 8, [.v (.int .u64 0)]⟩
def ti21 : TI := ⟨.int .i32, 1, 4, [.v (.int .i32 0)]⟩
def ti22 : TI := ⟨.array 8 3, 8, 64, [.v (.int .i64 0), .v (.int .i64 0), .v (.int .i64 0), .v (.int .i64 0), .v (.int .i64 0), .v (.int .i64 0), .v (.int .i64 0), .v (.int .i64 0)]⟩
def ti23 : TI := ⟨.array 8 2, 8, 64, [.v (.int .i64 0), .v (.int .i64 0), .v (.int .i64 0), .v (.int .i64 0), .v (.int .i64 0), .v (.int .i64 0), .v (.int .i64 0), .v (.int .i64 0)]⟩
def ti24 : TI := ⟨.array 8 2, 8, 64, [.v (.int .i64 0), .v (.int .i64 0), .v (.int .i64 0), .v (.int .i64 0), .v (.int .i64 0), .v (.int .i64 0), .v (.int .i64 0), .v (.int .i64 0)]⟩
def ti25 : TI := ⟨.struct #[⟨ "Number", 2, 0, false, "", "", 0⟩, ⟨ "States", 22, 1, false, "", "", 8⟩, ⟨ "Seals", 24, 9, false, "", "", 72⟩, ⟨ "Sponsor", 22, 17, false, "", "", 136⟩], 25, 200, [.v (.int .i64 0), .v (.int .i64 0), .v (.int .i64 0), .v (.int .i64 0), .v (.int .i64 0), .v (.int .i64 0), .v (.int .i64 0), .v (.int .i64 0), .v (.int .i64 0), .v (.int .i64 0), .v (.int .i64 0), .v (.int .i64 0), .v (.int .i64 0), .v (.int .i64 0), .v (.int .i64 0), .v (.int .i64 0), .v (.int .i64 0), .v (.int .i64 0), .v (.int .i64 0), .v (.int .i64 0), .v (.int .i64 0), .v (.int .i64 0), .v (.int .i64 0), .v (.int .i64 0), .v (.int .i64 0)]⟩
def ti26 : TI := ⟨.struct #[⟨ "Number", 2, 0, false, "", "", 0⟩, ⟨ "States", 22, 1, false, "", "", 8⟩, ⟨ "Seals", 24, 9, false, "", "", 72⟩, ⟨ "Sponsor", 22, 17, false, "", "", 136⟩], 25, 200, [.v (.int .i64 0), .v (.int .i64 0), .v (.int .i64 0), .v (.int .i64 0), .v (.int .i64 0), .v (.int .i64 0), .v (.int .i64 0), .v (.int .i64 0), .v (.int .i64 0), .v (.int .i64 0), .v (.int .i64 0), .v (.int .i64 0), .v (.int .i64 0), .v (.int .i64 0), .v (.int .i64 0), .v (.int .i64 0), .v (.int .i64 0), .v (.int .i64 0), .v (.int .i64 0), .v (.int .i64 0), .v (.int .i64 0), .v (.int .i64 0), .v (.int .i64 0), .v (.int .i64 0), .v (.int .i64 0)]⟩
def ti27 : TI := ⟨.slice 98, 1, 24, [.v (.slice none 0 0)]⟩
def ti28 : TI := ⟨.slice 43, 1, 24, [.v (.slice none 0 0)]⟩
def ti29 : TI := ⟨.array 8 28, 8, 192, [.v (.slice none 0 0), .v (.slice none 0 0), .v (.slice none 0 0), .v (.slice none 0 0), .v (.slice none 0 0), .v (.slice none 0 0), .v (.slice none 0 0), .v (.slice none 0 0)]⟩
def ti30 : TI := ⟨.array 8 24, 64, 512, [.v (.int .i64 0), .v (.int .i64 0), .v (.int .i64 0), .v (.int .i64 0), .v (.int .i64 0), .v (.int .i64 0), .v (.int .i64 0), .v (.int .i64 0), .v (.int .i64 0), .v (.int .i64 0), .v (.int .i64 0), .v (.int .i64 0), .v (.int .i64 0), .v (.int .i64 0), .v (.int .i64 0), .v (.int .i64 0), .v (.int .i64 0), .v (.int .i64 0), .v (.int .i64 0), .v (.int .i64 0), .v (.int .i64 0), .v (.int .i64 0), .v (.int .i64 0), .v (.int .i64 0), .v (.int .i64 0), .v (.int .i64 0), .v (.int .i64 0), .v (.int .i64 0), .v (.int .i64 0), .v (.int .i64 0), .v (.int .i64 0), .v (.int .i64 0), .v (.int .i64 0), .v (.int .i64 0), .v (.int .i64 0), .v (.int .i64 0), .v (.int .i64 0), .v (.int .i64 0), .v (.int .i64 0), .v (.int .i64 0), .v (.int .i64 0), .v (.int .i64 0), .v (.int .i64 0), .v (.int .i64 0), .v (.int .i64 0), .v (.int .i64 0), .v (.int .i64 0), .v (.int .i64 0), .v (.int .i64 0), .v (.int .i64 0), .v (.int .i64 0), .v (.int .i64 0), .v (.int .i64 0), .v (.int .i64 0), .v (.int .i64 0), .v (.int .i64 0), .v (.int .i64 0), .v (.int .i64 0), .v (.int .i64 0), .v (.int .i64 0), .v (.int .i64 0), .v (.int .i64 0), .v (.int .i64 0), .v (.int .i64 0)]⟩
def ti31 : TI := ⟨.slice 159, 1, 24, [.v (.slice none 0 0)]⟩
def ti32 : TI := ⟨.slice 51, 1, 24, [.v (.slice none 0 0)]⟩
def ti33 : TI := ⟨.struct #[⟨ "Site", 3, 0, false, "", "", 0⟩, ⟨ "Applied", 2, 1, false, "", "", 8⟩, ⟨ "Booted", 4, 2, false, "", "", 16⟩, ⟨ "Epoch", 26, 3, false, "", "", 24⟩, ⟨ "Clock", 2, 28, false, "", "", 224⟩, ⟨ "Vector", 24, 29, false, "", "", 232⟩, ⟨ "Last", 24, 37, false, "", "", 296⟩, ⟨ "Base", 27, 45, false, "", "", 360⟩, ⟨ "Log", 28, 46, false, "", "", 384⟩, ⟨ "Frontier", 2, 47, false, "", "", 408⟩, ⟨ "Starts", 24, 48, false, "", "", 416⟩, ⟨ "Kept", 29, 56, false, "", "", 480⟩, ⟨ "Known", 30, 64, false, "", "", 672⟩, ⟨ "Told", 24, 128, false, "", "", 1184⟩, ⟨ "Clocks", 24, 136, false, "", "", 1248⟩, ⟨ "Sure", 24, 144, false, "", "", 1312⟩, ⟨ "Rows", 31, 152, false, "", "", 1376⟩, ⟨ "Parts", 32, 153, false, "", "", 1400⟩], 154, 1424, [.v (.int .i64 0), .v (.int .i64 0), .v (.bool false), .v (.int .i64 0), .v (.int .i64 0), .v (.int .i64 0), .v (.int .i64 0), .v (.int .i64 0), .v (.int .i64 0), .v (.int .i64 0), .v (.int .i64 0), .v (.int .i64 0), .v (.int .i64 0), .v (.int .i64 0), .v (.int .i64 0), .v (.int .i64 0), .v (.int .i64 0), .v (.int .i64 0), .v (.int .i64 0), .v (.int .i64 0), .v (.int .i64 0), .v (.int .i64 0), .v (.int .i64 0), .v (.int .i64 0), .v (.int .i64 0), .v (.int .i64 0), .v (.int .i64 0), .v (.int .i64 0), .v (.int .i64 0), .v (.int .i64 0), .v (.int .i64 0), .v (.int .i64 0), .v (.int .i64 0), .v (.int .i64 0), .v (.int .i64 0), .v (.int .i64 0), .v (.int .i64 0), .v (.int .i64 0), .v (.int .i64 0), .v (.int .i64 0), .v (.int .i64 0), .v (.int .i64 0), .v (.int .i64 0), .v (.int .i64 0), .v (.int .i64 0), .v (.slice none 0 0), .v (.slice none 0 0), .v (.int .i64 0), .v (.int .i64 0), .v (.int .i64 0), .v (.int .i64 0), .v (.int .i64 0), .v (.int .i64 0), .v (.int .i64 0), .v (.int .i64 0), .v (.int .i64 0), .v (.slice none 0 0), .v (.slice none 0 0), .v (.slice none 0 0), .v (.slice none 0 0), .v (.slice none 0 0), .v (.slice none 0 0), .v (.slice none 0 0), .v (.slice none 0 0), .v (.int .i64 0), .v (.int .i64 0), .v (.int .i64 0), .v (.int .i64 0), .v (.int .i64 0), .v (.int .i64 0), .v (.int .i64 0), .v (.int .i64 0), .v (.int .i64 0), .v (.int .i64 0), .v (.int .i64 0), .v (.int .i64 0), .v (.int .i64 0), .v (.int .i64 0), .v (.int .i64 0), .v (.int .i64 0), .v (.int .i64 0), .v (.int .i64 0), .v (.int .i64 0), .v (.int .i64 0), .v (.int .i64 0), .v (.int .i64 0), .v (.int .i64 0), .v (.int .i64 0), .v (.int .i64 0), .v (.int .i64 0), .v (.int .i64 0), .v (.int .i64 0), .v (.int .i64 0), .v (.int .i64 0), .v (.int .i64 0), .v (.int .i64 0), .v (.int .i64 0), .v (.int .i64 0), .v (.int .i64 0), .v (.int .i64 0), .v (.int .i64 0), .v (.int .i64 0), .v (.int .i64 0), .v (.int .i64 0), .v (.int .i64 0), .v (.int .i64 0), .v (.int .i64 0), .v (.int .i64 0), .v (.int .i64 0), .v (.int .i64 0), .v (.int .i64 0), .v (.int .i64 0), .v (.int .i64 0), .v (.int .i64 0), .v (.int .i64 0), .v (.int .i64 0), .v (.int .i64 0), .v (.int .i64 0), .v (.int .i64 0), .v (.int .i64 0), .v (.int .i64 0), .v (.int .i64 0), .v (.int .i64 0), .v (.int .i64 0), .v (.int .i64 0), .v (.int .i64 0), .v (.int .i64 0), .v (.int .i64 0), .v (.int .i64 0), .v (.int .i64 0), .v (.int .i64 0), .v (.int .i64 0), .v (.int .i64 0), .v (.int .i64 0), .v (.int .i64 0), .v (.int .i64 0), .v (.int .i64 0), .v (.int .i64 0), .v (.int .i64 0), .v (.int .i64 0), .v (.int .i64 0), .v (.int .i64 0), .v (.int .i64 0), .v (.int .i64 0), .v (.int .i64 0), .v (.int .i64 0), .v (.int .i64 0), .v (.int .i64 0), .v (.int .i64 0), .v (.int .i64 0), .v (.int .i64 0), .v (.int .i64 0), .v (.slice none 0 0), .v (.slice none 0 0)]⟩
def ti34 : TI := ⟨.struct #[⟨ "Site", 3, 0, false, "", "", 0⟩, ⟨ "Applied", 2, 1, false, "", "", 8⟩, ⟨ "Booted", 4, 2, false, "", "", 16⟩, ⟨ "Epoch", 26, 3, false, "", "", 24⟩, ⟨ "Clock", 2, 28, false, "", "", 224⟩, ⟨ "Vector", 24, 29, false, "", "", 232⟩, ⟨ "Last", 24, 37, false, "", "", 296⟩, ⟨ "Base", 27, 45, false, "", "", 360⟩, ⟨ "Log", 28, 46, false, "", "", 384⟩, ⟨ "Frontier", 2, 47, false, "", "", 408⟩, ⟨ "Starts", 24, 48, false, "", "", 416⟩, ⟨ "Kept", 29, 56, false, "", "", 480⟩, ⟨ "Known", 30, 64, false, "", "", 672⟩, ⟨ "Told", 24, 128, false, "", "", 1184⟩, ⟨ "Clocks", 24, 136, false, "", "", 1248⟩, ⟨ "Sure", 24, 144, false, "", "", 1312⟩, ⟨ "Rows", 31, 152, false, "", "", 1376⟩, ⟨ "Parts", 32, 153, false, "", "", 1400⟩], 154, 1424, [.v (.int .i64 0), .v (.int .i64 0), .v (.bool false), .v (.int .i64 0), .v (.int .i64 0), .v (.int .i64 0), .v (.int .i64 0), .v (.int .i64 0), .v (.int .i64 0), .v (.int .i64 0), .v (.int .i64 0), .v (.int .i64 0), .v (.int .i64 0), .v (.int .i64 0), .v (.int .i64 0), .v (.int .i64 0), .v (.int .i64 0), .v (.int .i64 0), .v (.int .i64 0), .v (.int .i64 0), .v (.int .i64 0), .v (.int .i64 0), .v (.int .i64 0), .v (.int .i64 0), .v (.int .i64 0), .v (.int .i64 0), .v (.int .i64 0), .v (.int .i64 0), .v (.int .i64 0), .v (.int .i64 0), .v (.int .i64 0), .v (.int .i64 0), .v (.int .i64 0), .v (.int .i64 0), .v (.int .i64 0), .v (.int .i64 0), .v (.int .i64 0), .v (.int .i64 0), .v (.int .i64 0), .v (.int .i64 0), .v (.int .i64 0), .v (.int .i64 0), .v (.int .i64 0), .v (.int .i64 0), .v (.int .i64 0), .v (.slice none 0 0), .v (.slice none 0 0), .v (.int .i64 0), .v (.int .i64 0), .v (.int .i64 0), .v (.int .i64 0), .v (.int .i64 0), .v (.int .i64 0), .v (.int .i64 0), .v (.int .i64 0), .v (.int .i64 0), .v (.slice none 0 0), .v (.slice none 0 0), .v (.slice none 0 0), .v (.slice none 0 0), .v (.slice none 0 0), .v (.slice none 0 0), .v (.slice none 0 0), .v (.slice none 0 0), .v (.int .i64 0), .v (.int .i64 0), .v (.int .i64 0), .v (.int .i64 0), .v (.int .i64 0), .v (.int .i64 0), .v (.int .i64 0), .v (.int .i64 0), .v (.int .i64 0), .v (.int .i64 0), .v (.int .i64 0), .v (.int .i64 0), .v (.int .i64 0), .v (.int .i64 0), .v (.int .i64 0), .v (.int .i64 0), .v (.int .i64 0), .v (.int .i64 0), .v (.int .i64 0), .v (.int .i64 0), .v (.int .i64 0), .v (.int .i64 0), .v (.int .i64 0), .v (.int .i64 0), .v (.int .i64 0), .v (.int .i64 0), .v (.int .i64 0), .v (.int .i64 0), .v (.int .i64 0), .v (.int .i64 0), .v (.int .i64 0), .v (.int .i64 0), .v (.int .i64 0), .v (.int .i64 0), .v (.int .i64 0), .v (.int .i64 0), .v (.int .i64 0), .v (.int .i64 0), .v (.int .i64 0), .v (.int .i64 0), .v (.int .i64 0), .v (.int .i64 0), .v (.int .i64 0), .v (.int .i64 0), .v (.int .i64 0), .v (.int .i64 0), .v (.int .i64 0), .v (.int .i64 0), .v (.int .i64 0), .v (.int .i64 0), .v (.int .i64 0), .v (.int .i64 0), .v (.int .i64 0), .v (.int .i64 0), .v (.int .i64 0), .v (.int .i64 0), .v (.int .i64 0), .v (.int .i64 0), .v (.int .i64 0), .v (.int .i64 0), .v (.int .i64 0), .v (.int .i64 0), .v (.int .i64 0), .v (.int .i64 0), .v (.int .i64 0), .v (.int .i64 0), .v (.int .i64 0), .v (.int .i64 0), .v (.int .i64 0), .v (.int .i64 0), .v (.int .i64 0), .v (.int .i64 0), .v (.int .i64 0), .v (.int .i64 0), .v (.int .i64 0), .v (.int .i64 0), .v (.int .i64 0), .v (.int .i64 0), .v (.int .i64 0), .v (.int .i64 0), .v (.int .i64 0), .v (.int .i64 0), .v (.int .i64 0), .v (.int .i64 0), .v (.int .i64 0), .v (.int .i64 0), .v (.int .i64 0), .v (.int .i64 0), .v (.slice none 0 0), .v (.slice none 0 0)]⟩
def ti40 : TI := ⟨.struct #[⟨ "Time", 2, 0, false, "", "", 0⟩, ⟨ "Site", 3, 1, false, "", "", 8⟩], 2, 16, [.v (.int .i64 0), .v (.int .i64 0)]⟩
def ti41 : TI := ⟨.struct #[⟨ "Time", 2, 0, false, "", "", 0⟩, ⟨ "Site", 3, 1, false, "", "", 8⟩], 2, 16, [.v (.int .i64 0), .v (.int .i64 0)]⟩
def ti42 : TI := ⟨.struct #[⟨ "Stamp", 41, 0, false, "", "", 0⟩, ⟨ "Kind", 3, 2, false, "", "", 16⟩, ⟨ "Node", 2, 3, false, "", "", 24⟩, ⟨ "Parent", 2, 4, false, "", "", 32⟩, ⟨ "Name", 9, 5, false, "", "", 40⟩, ⟨ "Key", 9, 6, false, "", "", 56⟩, ⟨ "Value", 9, 7, false, "", "", 72⟩], 8, 88, [.v (.int .i64 0), .v (.int .i64 0), .v (.int .i64 0), .v (.int .i64 0), .v (.int .i64 0), .v (.string ⟨#[]⟩), .v (.string ⟨#[]⟩), .v (.string ⟨#[]⟩)]⟩
def ti43 : TI := ⟨.struct #[⟨ "Stamp", 41, 0, false, "", "", 0⟩, ⟨ "Kind", 3, 2, false, "", "", 16⟩, ⟨ "Node", 2, 3, false, "", "", 24⟩, ⟨ "Parent", 2, 4, false, "", "", 32⟩, ⟨ "Name", 9, 5, false, "", "", 40⟩, ⟨ "Key", 9, 6, false, "", "", 56⟩, ⟨ "Value", 9, 7, false, "", "", 72⟩], 8, 88, [.v (.int .i64 0), .v (.int .i64 0), .v (.int .i64 0), .v (.int .i64 0), .v (.int .i64 0), .v (.string ⟨#[]⟩), .v (.string ⟨#[]⟩), .v (.string ⟨#[]⟩)]⟩
def ti44 : TI := ⟨.struct #[⟨ "Group", 3, 0, false, "", "", 0⟩, ⟨ "Replica", 3, 1, false, "", "", 8⟩], 2, 16, [.v (.int .i64 0), .v (.int .i64 0)]⟩
def ti45 : TI := ⟨.struct #[⟨ "Group", 3, 0, false, "", "", 0⟩, ⟨ "Replica", 3, 1, false, "", "", 8⟩], 2, 16, [.v (.int .i64 0), .v (.int .i64 0)]⟩
def ti46 : TI := ⟨.struct #[⟨ "Round", 2, 0, false, "", "", 0⟩, ⟨ "Replica", 3, 1, false, "", "", 8⟩], 2, 16, [.v (.int .i64 0), .v (.int .i64 0)]⟩
def ti47 : TI := ⟨.struct #[⟨ "Round", 2, 0, false, "", "", 0⟩, ⟨ "Replica", 3, 1, false, "", "", 8⟩], 2, 16, [.v (.int .i64 0), .v (.int .i64 0)]⟩
def ti48 : TI := ⟨.slice 101, 1, 24, [.v (.slice none 0 0)]⟩
def ti49 : TI := ⟨.slice 5, 1, 24, [.v (.slice none 0 0)]⟩
def ti50 : TI := ⟨.struct #[⟨ "Snap", 2, 0, false, "", "", 0⟩, ⟨ "Index", 3, 1, false, "", "", 8⟩, ⟨ "Many", 3, 2, false, "", "", 16⟩, ⟨ "Data", 49, 3, false, "", "", 24⟩], 4, 48, [.v (.int .i64 0), .v (.int .i64 0), .v (.int .i64 0), .v (.slice none 0 0)]⟩
def ti51 : TI := ⟨.struct #[⟨ "Snap", 2, 0, false, "", "", 0⟩, ⟨ "Index", 3, 1, false, "", "", 8⟩, ⟨ "Many", 3, 2, false, "", "", 16⟩, ⟨ "Data", 49, 3, false, "", "", 24⟩], 4, 48, [.v (.int .i64 0), .v (.int .i64 0), .v (.int .i64 0), .v (.slice none 0 0)]⟩
def ti52 : TI := ⟨.struct #[⟨ "Kind", 3, 0, false, "", "", 0⟩, ⟨ "Session", 2, 1, false, "", "", 8⟩, ⟨ "Request", 2, 2, false, "", "", 16⟩, ⟨ "Op", 43, 3, false, "", "", 24⟩, ⟨ "Origin", 3, 11, false, "", "", 112⟩, ⟨ "Seq", 2, 12, false, "", "", 120⟩, ⟨ "Ops", 28, 13, false, "", "", 128⟩, ⟨ "Epoch", 26, 14, false, "", "", 152⟩, ⟨ "From", 3, 39, false, "", "", 352⟩, ⟨ "Vector", 24, 40, false, "", "", 360⟩, ⟨ "Clock", 2, 48, false, "", "", 424⟩, ⟨ "Part", 51, 49, false, "", "", 432⟩, ⟨ "Site", 3, 53, false, "", "", 480⟩, ⟨ "Sponsor", 3, 54, false, "", "", 488⟩, ⟨ "Length", 2, 55, false, "", "", 496⟩], 56, 504, [.v (.int .i64 0), .v (.int .i64 0), .v (.int .i64 0), .v (.int .i64 0), .v (.int .i64 0), .v (.int .i64 0), .v (.int .i64 0), .v (.int .i64 0), .v (.string ⟨#[]⟩), .v (.string ⟨#[]⟩), .v (.string ⟨#[]⟩), .v (.int .i64 0), .v (.int .i64 0), .v (.slice none 0 0), .v (.int .i64 0), .v (.int .i64 0), .v (.int .i64 0), .v (.int .i64 0), .v (.int .i64 0), .v (.int .i64 0), .v (.int .i64 0), .v (.int .i64 0), .v (.int .i64 0), .v (.int .i64 0), .v (.int .i64 0), .v (.int .i64 0), .v (.int .i64 0), .v (.int .i64 0), .v (.int .i64 0), .v (.int .i64 0), .v (.int .i64 0), .v (.int .i64 0), .v (.int .i64 0), .v (.int .i64 0), .v (.int .i64 0), .v (.int .i64 0), .v (.int .i64 0), .v (.int .i64 0), .v (.int .i64 0), .v (.int .i64 0), .v (.int .i64 0), .v (.int .i64 0), .v (.int .i64 0), .v (.int .i64 0), .v (.int .i64 0), .v (.int .i64 0), .v (.int .i64 0), .v (.int .i64 0), .v (.int .i64 0), .v (.int .i64 0), .v (.int .i64 0), .v (.int .i64 0), .v (.slice none 0 0), .v (.int .i64 0), .v (.int .i64 0), .v (.int .i64 0)]⟩
def ti53 : TI := ⟨.struct #[⟨ "Kind", 3, 0, false, "", "", 0⟩, ⟨ "Session", 2, 1, false, "", "", 8⟩, ⟨ "Request", 2, 2, false, "", "", 16⟩, ⟨ "Op", 43, 3, false, "", "", 24⟩, ⟨ "Origin", 3, 11, false, "", "", 112⟩, ⟨ "Seq", 2, 12, false, "", "", 120⟩, ⟨ "Ops", 28, 13, false, "", "", 128⟩, ⟨ "Epoch", 26, 14, false, "", "", 152⟩, ⟨ "From", 3, 39, false, "", "", 352⟩, ⟨ "Vector", 24, 40, false, "", "", 360⟩, ⟨ "Clock", 2, 48, false, "", "", 424⟩, ⟨ "Part", 51, 49, false, "", "", 432⟩, ⟨ "Site", 3, 53, false, "", "", 480⟩, ⟨ "Sponsor", 3, 54, false, "", "", 488⟩, ⟨ "Length", 2, 55, false, "", "", 496⟩], 56, 504, [.v (.int .i64 0), .v (.int .i64 0), .v (.int .i64 0), .v (.int .i64 0), .v (.int .i64 0), .v (.int .i64 0), .v (.int .i64 0), .v (.int .i64 0), .v (.string ⟨#[]⟩), .v (.string ⟨#[]⟩), .v (.string ⟨#[]⟩), .v (.int .i64 0), .v (.int .i64 0), .v (.slice none 0 0), .v (.int .i64 0), .v (.int .i64 0), .v (.int .i64 0), .v (.int .i64 0), .v (.int .i64 0), .v (.int .i64 0), .v (.int .i64 0), .v (.int .i64 0), .v (.int .i64 0), .v (.int .i64 0), .v (.int .i64 0), .v (.int .i64 0), .v (.int .i64 0), .v (.int .i64 0), .v (.int .i64 0), .v (.int .i64 0), .v (.int .i64 0), .v (.int .i64 0), .v (.int .i64 0), .v (.int .i64 0), .v (.int .i64 0), .v (.int .i64 0), .v (.int .i64 0), .v (.int .i64 0), .v (.int .i64 0), .v (.int .i64 0), .v (.int .i64 0), .v (.int .i64 0), .v (.int .i64 0), .v (.int .i64 0), .v (.int .i64 0), .v (.int .i64 0), .v (.int .i64 0), .v (.int .i64 0), .v (.int .i64 0), .v (.int .i64 0), .v (.int .i64 0), .v (.int .i64 0), .v (.slice none 0 0), .v (.int .i64 0), .v (.int .i64 0), .v (.int .i64 0)]⟩
def ti54 : TI := ⟨.struct #[⟨ "Kind", 3, 0, false, "", "", 0⟩, ⟨ "From", 45, 1, false, "", "", 8⟩, ⟨ "To", 45, 3, false, "", "", 24⟩, ⟨ "Ballot", 47, 5, false, "", "", 40⟩, ⟨ "Slot", 2, 7, false, "", "", 56⟩, ⟨ "List", 48, 8, false, "", "", 64⟩, ⟨ "Entry", 53, 9, false, "", "", 88⟩, ⟨ "Number", 2, 65, false, "", "", 592⟩, ⟨ "Vector", 24, 66, false, "", "", 600⟩, ⟨ "Clock", 2, 74, false, "", "", 664⟩, ⟨ "Origin", 3, 75, false, "", "", 672⟩, ⟨ "Ops", 28, 76, false, "", "", 680⟩, ⟨ "Epoch", 26, 77, false, "", "", 704⟩, ⟨ "Part", 51, 102, false, "", "", 904⟩], 106, 952, [.v (.int .i64 0), .v (.int .i64 0), .v (.int .i64 0), .v (.int .i64 0), .v (.int .i64 0), .v (.int .i64 0), .v (.int .i64 0), .v (.int .i64 0), .v (.slice none 0 0), .v (.int .i64 0), .v (.int .i64 0), .v (.int .i64 0), .v (.int .i64 0), .v (.int .i64 0), .v (.int .i64 0), .v (.int .i64 0), .v (.int .i64 0), .v (.string ⟨#[]⟩), .v (.string ⟨#[]⟩), .v (.string ⟨#[]⟩), .v (.int .i64 0), .v (.int .i64 0), .v (.slice none 0 0), .v (.int .i64 0), .v (.int .i64 0), .v (.int .i64 0), .v (.int .i64 0), .v (.int .i64 0), .v (.int .i64 0), .v (.int .i64 0), .v (.int .i64 0), .v (.int .i64 0), .v (.int .i64 0), .v (.int .i64 0), .v (.int .i64 0), .v (.int .i64 0), .v (.int .i64 0), .v (.int .i64 0), .v (.int .i64 0), .v (.int .i64 0), .v (.int .i64 0), .v (.int .i64 0), .v (.int .i64 0), .v (.int .i64 0), .v (.int .i64 0), .v (.int .i64 0), .v (.int .i64 0), .v (.int .i64 0), .v (.int .i64 0), .v (.int .i64 0), .v (.int .i64 0), .v (.int .i64 0), .v (.int .i64 0), .v (.int .i64 0), .v (.int .i64 0), .v (.int .i64 0), .v (.int .i64 0), .v (.int .i64 0), .v (.int .i64 0), .v (.int .i64 0), .v (.int .i64 0), .v (.slice none 0 0), .v (.int .i64 0), .v (.int .i64 0), .v (.int .i64 0), .v (.int .i64 0), .v (.int .i64 0), .v (.int .i64 0), .v (.int .i64 0), .v (.int .i64 0), .v (.int .i64 0), .v (.int .i64 0), .v (.int .i64 0), .v (.int .i64 0), .v (.int .i64 0), .v (.int .i64 0), .v (.slice none 0 0), .v (.int .i64 0), .v (.int .i64 0), .v (.int .i64 0), .v (.int .i64 0), .v (.int .i64 0), .v (.int .i64 0), .v (.int .i64 0), .v (.int .i64 0), .v (.int .i64 0), .v (.int .i64 0), .v (.int .i64 0), .v (.int .i64 0), .v (.int .i64 0), .v (.int .i64 0), .v (.int .i64 0), .v (.int .i64 0), .v (.int .i64 0), .v (.int .i64 0), .v (.int .i64 0), .v (.int .i64 0), .v (.int .i64 0), .v (.int .i64 0), .v (.int .i64 0), .v (.int .i64 0), .v (.int .i64 0), .v (.int .i64 0), .v (.int .i64 0), .v (.int .i64 0), .v (.slice none 0 0)]⟩
def ti55 : TI := ⟨.struct #[⟨ "Kind", 3, 0, false, "", "", 0⟩, ⟨ "From", 45, 1, false, "", "", 8⟩, ⟨ "To", 45, 3, false, "", "", 24⟩, ⟨ "Ballot", 47, 5, false, "", "", 40⟩, ⟨ "Slot", 2, 7, false, "", "", 56⟩, ⟨ "List", 48, 8, false, "", "", 64⟩, ⟨ "Entry", 53, 9, false, "", "", 88⟩, ⟨ "Number", 2, 65, false, "", "", 592⟩, ⟨ "Vector", 24, 66, false, "", "", 600⟩, ⟨ "Clock", 2, 74, false, "", "", 664⟩, ⟨ "Origin", 3, 75, false, "", "", 672⟩, ⟨ "Ops", 28, 76, false, "", "", 680⟩, ⟨ "Epoch", 26, 77, false, "", "", 704⟩, ⟨ "Part", 51, 102, false, "", "", 904⟩], 106, 952, [.v (.int .i64 0), .v (.int .i64 0), .v (.int .i64 0), .v (.int .i64 0), .v (.int .i64 0), .v (.int .i64 0), .v (.int .i64 0), .v (.int .i64 0), .v (.slice none 0 0), .v (.int .i64 0), .v (.int .i64 0), .v (.int .i64 0), .v (.int .i64 0), .v (.int .i64 0), .v (.int .i64 0), .v (.int .i64 0), .v (.int .i64 0), .v (.string ⟨#[]⟩), .v (.string ⟨#[]⟩), .v (.string ⟨#[]⟩), .v (.int .i64 0), .v (.int .i64 0), .v (.slice none 0 0), .v (.int .i64 0), .v (.int .i64 0), .v (.int .i64 0), .v (.int .i64 0), .v (.int .i64 0), .v (.int .i64 0), .v (.int .i64 0), .v (.int .i64 0), .v (.int .i64 0), .v (.int .i64 0), .v (.int .i64 0), .v (.int .i64 0), .v (.int .i64 0), .v (.int .i64 0), .v (.int .i64 0), .v (.int .i64 0), .v (.int .i64 0), .v (.int .i64 0), .v (.int .i64 0), .v (.int .i64 0), .v (.int .i64 0), .v (.int .i64 0), .v (.int .i64 0), .v (.int .i64 0), .v (.int .i64 0), .v (.int .i64 0), .v (.int .i64 0), .v (.int .i64 0), .v (.int .i64 0), .v (.int .i64 0), .v (.int .i64 0), .v (.int .i64 0), .v (.int .i64 0), .v (.int .i64 0), .v (.int .i64 0), .v (.int .i64 0), .v (.int .i64 0), .v (.int .i64 0), .v (.slice none 0 0), .v (.int .i64 0), .v (.int .i64 0), .v (.int .i64 0), .v (.int .i64 0), .v (.int .i64 0), .v (.int .i64 0), .v (.int .i64 0), .v (.int .i64 0), .v (.int .i64 0), .v (.int .i64 0), .v (.int .i64 0), .v (.int .i64 0), .v (.int .i64 0), .v (.int .i64 0), .v (.slice none 0 0), .v (.int .i64 0), .v (.int .i64 0), .v (.int .i64 0), .v (.int .i64 0), .v (.int .i64 0), .v (.int .i64 0), .v (.int .i64 0), .v (.int .i64 0), .v (.int .i64 0), .v (.int .i64 0), .v (.int .i64 0), .v (.int .i64 0), .v (.int .i64 0), .v (.int .i64 0), .v (.int .i64 0), .v (.int .i64 0), .v (.int .i64 0), .v (.int .i64 0), .v (.int .i64 0), .v (.int .i64 0), .v (.int .i64 0), .v (.int .i64 0), .v (.int .i64 0), .v (.int .i64 0), .v (.int .i64 0), .v (.int .i64 0), .v (.int .i64 0), .v (.int .i64 0), .v (.slice none 0 0)]⟩
def ti56 : TI := ⟨.int .i64, 1, 8, [.v (.int .i64 0)]⟩
def ti60 : TI := ⟨.slice 3, 1, 24, [.v (.slice none 0 0)]⟩
def ti96 : TI := ⟨.slice 169, 1, 24, [.v (.slice none 0 0)]⟩
def ti98 : TI := ⟨.struct #[⟨ "Node", 2, 0, false, "", "", 0⟩, ⟨ "Parent", 2, 1, false, "", "", 8⟩, ⟨ "Name", 9, 2, false, "", "", 16⟩, ⟨ "Attrs", 96, 3, false, "", "", 32⟩], 4, 56, [.v (.int .i64 0), .v (.int .i64 0), .v (.string ⟨#[]⟩), .v (.slice none 0 0)]⟩
def ti101 : TI := ⟨.struct #[⟨ "Slot", 2, 0, false, "", "", 0⟩, ⟨ "Ballot", 47, 1, false, "", "", 8⟩, ⟨ "Entry", 53, 3, false, "", "", 24⟩], 59, 528, [.v (.int .i64 0), .v (.int .i64 0), .v (.int .i64 0), .v (.int .i64 0), .v (.int .i64 0), .v (.int .i64 0), .v (.int .i64 0), .v (.int .i64 0), .v (.int .i64 0), .v (.int .i64 0), .v (.int .i64 0), .v (.string ⟨#[]⟩), .v (.string ⟨#[]⟩), .v (.string ⟨#[]⟩), .v (.int .i64 0), .v (.int .i64 0), .v (.slice none 0 0), .v (.int .i64 0), .v (.int .i64 0), .v (.int .i64 0), .v (.int .i64 0), .v (.int .i64 0), .v (.int .i64 0), .v (.int .i64 0), .v (.int .i64 0), .v (.int .i64 0), .v (.int .i64 0), .v (.int .i64 0), .v (.int .i64 0), .v (.int .i64 0), .v (.int .i64 0), .v (.int .i64 0), .v (.int .i64 0), .v (.int .i64 0), .v (.int .i64 0), .v (.int .i64 0), .v (.int .i64 0), .v (.int .i64 0), .v (.int .i64 0), .v (.int .i64 0), .v (.int .i64 0), .v (.int .i64 0), .v (.int .i64 0), .v (.int .i64 0), .v (.int .i64 0), .v (.int .i64 0), .v (.int .i64 0), .v (.int .i64 0), .v (.int .i64 0), .v (.int .i64 0), .v (.int .i64 0), .v (.int .i64 0), .v (.int .i64 0), .v (.int .i64 0), .v (.int .i64 0), .v (.slice none 0 0), .v (.int .i64 0), .v (.int .i64 0), .v (.int .i64 0)]⟩
def ti102 : TI := ⟨.slice 9, 1, 24, [.v (.slice none 0 0)]⟩
def ti107 : TI := ⟨.slice 45, 1, 24, [.v (.slice none 0 0)]⟩
def ti115 : TI := ⟨.slice 24, 1, 24, [.v (.slice none 0 0)]⟩
def ti126 : TI := ⟨.slice 2, 1, 24, [.v (.slice none 0 0)]⟩
def ti157 : TI := ⟨.struct #[⟨ "Err", 56, 0, false, "", "", 0⟩, ⟨ "Stamp", 41, 1, false, "", "", 8⟩, ⟨ "Node", 2, 3, false, "", "", 24⟩], 4, 32, [.v (.int .i64 0), .v (.int .i64 0), .v (.int .i64 0), .v (.int .i64 0)]⟩
def ti159 : TI := ⟨.struct #[⟨ "Session", 2, 0, false, "", "", 0⟩, ⟨ "Request", 2, 1, false, "", "", 8⟩, ⟨ "Reply", 157, 2, false, "", "", 16⟩], 6, 48, [.v (.int .i64 0), .v (.int .i64 0), .v (.int .i64 0), .v (.int .i64 0), .v (.int .i64 0), .v (.int .i64 0)]⟩
def ti169 : TI := ⟨.struct #[⟨ "Key", 9, 0, false, "", "", 0⟩, ⟨ "Value", 9, 1, false, "", "", 16⟩], 2, 32, [.v (.string ⟨#[]⟩), .v (.string ⟨#[]⟩)]⟩
def tyT : Nat → Option TI
  | 2 => some ti2
  | 3 => some ti3
  | 4 => some ti4
  | 5 => some ti5
  | 9 => some ti9
  | 12 => some ti12
  | 21 => some ti21
  | 22 => some ti22
  | 23 => some ti23
  | 24 => some ti24
  | 25 => some ti25
  | 26 => some ti26
  | 27 => some ti27
  | 28 => some ti28
  | 29 => some ti29
  | 30 => some ti30
  | 31 => some ti31
  | 32 => some ti32
  | 33 => some ti33
  | 34 => some ti34
  | 40 => some ti40
  | 41 => some ti41
  | 42 => some ti42
  | 43 => some ti43
  | 44 => some ti44
  | 45 => some ti45
  | 46 => some ti46
  | 47 => some ti47
  | 48 => some ti48
  | 49 => some ti49
  | 50 => some ti50
  | 51 => some ti51
  | 52 => some ti52
  | 53 => some ti53
  | 54 => some ti54
  | 55 => some ti55
  | 56 => some ti56
  | 60 => some ti60
  | 96 => some ti96
  | 98 => some ti98
  | 101 => some ti101
  | 102 => some ti102
  | 107 => some ti107
  | 115 => some ti115
  | 126 => some ti126
  | 157 => some ti157
  | 159 => some ti159
  | 169 => some ti169
  | _ => none
def eqT : Nat → Option (List Kd)
  | 22 => some [.i, .i, .i, .i, .i, .i, .i, .i]
  | 23 => some [.i, .i, .i, .i, .i, .i, .i, .i]
  | 24 => some [.i, .i, .i, .i, .i, .i, .i, .i]
  | 25 => some [.i, .i, .i, .i, .i, .i, .i, .i, .i, .i, .i, .i, .i, .i, .i, .i, .i, .i, .i, .i, .i, .i, .i, .i, .i]
  | 26 => some [.i, .i, .i, .i, .i, .i, .i, .i, .i, .i, .i, .i, .i, .i, .i, .i, .i, .i, .i, .i, .i, .i, .i, .i, .i]
  | 30 => some [.i, .i, .i, .i, .i, .i, .i, .i, .i, .i, .i, .i, .i, .i, .i, .i, .i, .i, .i, .i, .i, .i, .i, .i, .i, .i, .i, .i, .i, .i, .i, .i, .i, .i, .i, .i, .i, .i, .i, .i, .i, .i, .i, .i, .i, .i, .i, .i, .i, .i, .i, .i, .i, .i, .i, .i, .i, .i, .i, .i, .i, .i, .i, .i]
  | 40 => some [.i, .i]
  | 41 => some [.i, .i]
  | 42 => some [.i, .i, .i, .i, .i, .s, .s, .s]
  | 43 => some [.i, .i, .i, .i, .i, .s, .s, .s]
  | 44 => some [.i, .i]
  | 45 => some [.i, .i]
  | 46 => some [.i, .i]
  | 47 => some [.i, .i]
  | 157 => some [.i, .i, .i, .i]
  | 159 => some [.i, .i, .i, .i, .i, .i]
  | 169 => some [.s, .s]
  | _ => none
noncomputable def E : Env := ⟨Try.prog, tyT, eqT, none⟩
theorem tok2 : TyOk E.P 2 ti2 := tyOkV (z := (.int .i64 0)) (by kernel_rfl) rfl (by kernel_rfl) (by kernel_rfl)
theorem tok3 : TyOk E.P 3 ti3 := tyOkV (z := (.int .i64 0)) (by kernel_rfl) rfl (by kernel_rfl) (by kernel_rfl)
theorem tok4 : TyOk E.P 4 ti4 := tyOkV (z := (.bool false)) (by kernel_rfl) rfl (by kernel_rfl) (by kernel_rfl)
theorem tok5 : TyOk E.P 5 ti5 := tyOkV (z := (.int .u8 0)) (by kernel_rfl) rfl (by kernel_rfl) (by kernel_rfl)
theorem tok9 : TyOk E.P 9 ti9 := tyOkV (z := (.string ⟨#[]⟩)) (by kernel_rfl) rfl (by kernel_rfl) (by kernel_rfl)
theorem tok12 : TyOk E.P 12 ti12 := tyOkV (z := (.int .u64 0)) (by kernel_rfl) rfl (by kernel_rfl) (by kernel_rfl)
theorem tok21 : TyOk E.P 21 ti21 := tyOkV (z := (.int .i32 0)) (by kernel_rfl) rfl (by kernel_rfl) (by kernel_rfl)
theorem tok22 : TyOk E.P 22 ti22 := tyOkV (z := (.agg #[(.int .i64 0), (.int .i64 0), (.int .i64 0), (.int .i64 0), (.int .i64 0), (.int .i64 0), (.int .i64 0), (.int .i64 0)])) (by kernel_rfl) rfl (by kernel_rfl) (by kernel_rfl)
theorem tok23 : TyOk E.P 23 ti23 := tyOkV (z := (.agg #[(.int .i64 0), (.int .i64 0), (.int .i64 0), (.int .i64 0), (.int .i64 0), (.int .i64 0), (.int .i64 0), (.int .i64 0)])) (by kernel_rfl) rfl (by kernel_rfl) (by kernel_rfl)
theorem tok24 : TyOk E.P 24 ti24 := tyOkV (z := (.agg #[(.int .i64 0), (.int .i64 0), (.int .i64 0), (.int .i64 0), (.int .i64 0), (.int .i64 0), (.int .i64 0), (.int .i64 0)])) (by kernel_rfl) rfl (by kernel_rfl) (by kernel_rfl)
theorem tok25 : TyOk E.P 25 ti25 := tyOkV (z := (.agg #[(.int .i64 0), (.int .i64 0), (.int .i64 0), (.int .i64 0), (.int .i64 0), (.int .i64 0), (.int .i64 0), (.int .i64 0), (.int .i64 0), (.int .i64 0), (.int .i64 0), (.int .i64 0), (.int .i64 0), (.int .i64 0), (.int .i64 0), (.int .i64 0), (.int .i64 0), (.int .i64 0), (.int .i64 0), (.int .i64 0), (.int .i64 0), (.int .i64 0), (.int .i64 0), (.int .i64 0), (.int .i64 0)])) (by kernel_rfl) rfl (by kernel_rfl) (by kernel_rfl)
theorem tok26 : TyOk E.P 26 ti26 := tyOkV (z := (.agg #[(.int .i64 0), (.int .i64 0), (.int .i64 0), (.int .i64 0), (.int .i64 0), (.int .i64 0), (.int .i64 0), (.int .i64 0), (.int .i64 0), (.int .i64 0), (.int .i64 0), (.int .i64 0), (.int .i64 0), (.int .i64 0), (.int .i64 0), (.int .i64 0), (.int .i64 0), (.int .i64 0), (.int .i64 0), (.int .i64 0), (.int .i64 0), (.int .i64 0), (.int .i64 0), (.int .i64 0), (.int .i64 0)])) (by kernel_rfl) rfl (by kernel_rfl) (by kernel_rfl)
theorem tok27 : TyOk E.P 27 ti27 := tyOkV (z := (.slice none 0 0)) (by kernel_rfl) rfl (by kernel_rfl) (by kernel_rfl)
theorem tok28 : TyOk E.P 28 ti28 := tyOkV (z := (.slice none 0 0)) (by kernel_rfl) rfl (by kernel_rfl) (by kernel_rfl)
theorem tok29 : TyOk E.P 29 ti29 := tyOkV (z := (.agg #[(.slice none 0 0), (.slice none 0 0), (.slice none 0 0), (.slice none 0 0), (.slice none 0 0), (.slice none 0 0), (.slice none 0 0), (.slice none 0 0)])) (by kernel_rfl) rfl (by kernel_rfl) (by kernel_rfl)
theorem tok30 : TyOk E.P 30 ti30 := tyOkV (z := (.agg #[(.int .i64 0), (.int .i64 0), (.int .i64 0), (.int .i64 0), (.int .i64 0), (.int .i64 0), (.int .i64 0), (.int .i64 0), (.int .i64 0), (.int .i64 0), (.int .i64 0), (.int .i64 0), (.int .i64 0), (.int .i64 0), (.int .i64 0), (.int .i64 0), (.int .i64 0), (.int .i64 0), (.int .i64 0), (.int .i64 0), (.int .i64 0), (.int .i64 0), (.int .i64 0), (.int .i64 0), (.int .i64 0), (.int .i64 0), (.int .i64 0), (.int .i64 0), (.int .i64 0), (.int .i64 0), (.int .i64 0), (.int .i64 0), (.int .i64 0), (.int .i64 0), (.int .i64 0), (.int .i64 0), (.int .i64 0), (.int .i64 0), (.int .i64 0), (.int .i64 0), (.int .i64 0), (.int .i64 0), (.int .i64 0), (.int .i64 0), (.int .i64 0), (.int .i64 0), (.int .i64 0), (.int .i64 0), (.int .i64 0), (.int .i64 0), (.int .i64 0), (.int .i64 0), (.int .i64 0), (.int .i64 0), (.int .i64 0), (.int .i64 0), (.int .i64 0), (.int .i64 0), (.int .i64 0), (.int .i64 0), (.int .i64 0), (.int .i64 0), (.int .i64 0), (.int .i64 0)])) (by kernel_rfl) rfl (by kernel_rfl) (by kernel_rfl)
theorem tok31 : TyOk E.P 31 ti31 := tyOkV (z := (.slice none 0 0)) (by kernel_rfl) rfl (by kernel_rfl) (by kernel_rfl)
theorem tok32 : TyOk E.P 32 ti32 := tyOkV (z := (.slice none 0 0)) (by kernel_rfl) rfl (by kernel_rfl) (by kernel_rfl)
theorem tok33 : TyOk E.P 33 ti33 := tyOkV (z := (.agg #[(.int .i64 0), (.int .i64 0), (.bool false), (.int .i64 0), (.int .i64 0), (.int .i64 0), (.int .i64 0), (.int .i64 0), (.int .i64 0), (.int .i64 0), (.int .i64 0), (.int .i64 0), (.int .i64 0), (.int .i64 0), (.int .i64 0), (.int .i64 0), (.int .i64 0), (.int .i64 0), (.int .i64 0), (.int .i64 0), (.int .i64 0), (.int .i64 0), (.int .i64 0), (.int .i64 0), (.int .i64 0), (.int .i64 0), (.int .i64 0), (.int .i64 0), (.int .i64 0), (.int .i64 0), (.int .i64 0), (.int .i64 0), (.int .i64 0), (.int .i64 0), (.int .i64 0), (.int .i64 0), (.int .i64 0), (.int .i64 0), (.int .i64 0), (.int .i64 0), (.int .i64 0), (.int .i64 0), (.int .i64 0), (.int .i64 0), (.int .i64 0), (.slice none 0 0), (.slice none 0 0), (.int .i64 0), (.int .i64 0), (.int .i64 0), (.int .i64 0), (.int .i64 0), (.int .i64 0), (.int .i64 0), (.int .i64 0), (.int .i64 0), (.slice none 0 0), (.slice none 0 0), (.slice none 0 0), (.slice none 0 0), (.slice none 0 0), (.slice none 0 0), (.slice none 0 0), (.slice none 0 0), (.int .i64 0), (.int .i64 0), (.int .i64 0), (.int .i64 0), (.int .i64 0), (.int .i64 0), (.int .i64 0), (.int .i64 0), (.int .i64 0), (.int .i64 0), (.int .i64 0), (.int .i64 0), (.int .i64 0), (.int .i64 0), (.int .i64 0), (.int .i64 0), (.int .i64 0), (.int .i64 0), (.int .i64 0), (.int .i64 0), (.int .i64 0), (.int .i64 0), (.int .i64 0), (.int .i64 0), (.int .i64 0), (.int .i64 0), (.int .i64 0), (.int .i64 0), (.int .i64 0), (.int .i64 0), (.int .i64 0), (.int .i64 0), (.int .i64 0), (.int .i64 0), (.int .i64 0), (.int .i64 0), (.int .i64 0), (.int .i64 0), (.int .i64 0), (.int .i64 0), (.int .i64 0), (.int .i64 0), (.int .i64 0), (.int .i64 0), (.int .i64 0), (.int .i64 0), (.int .i64 0), (.int .i64 0), (.int .i64 0), (.int .i64 0), (.int .i64 0), (.int .i64 0), (.int .i64 0), (.int .i64 0), (.int .i64 0), (.int .i64 0), (.int .i64 0), (.int .i64 0), (.int .i64 0), (.int .i64 0), (.int .i64 0), (.int .i64 0), (.int .i64 0), (.int .i64 0), (.int .i64 0), (.int .i64 0), (.int .i64 0), (.int .i64 0), (.int .i64 0), (.int .i64 0), (.int .i64 0), (.int .i64 0), (.int .i64 0), (.int .i64 0), (.int .i64 0), (.int .i64 0), (.int .i64 0), (.int .i64 0), (.int .i64 0), (.int .i64 0), (.int .i64 0), (.int .i64 0), (.int .i64 0), (.int .i64 0), (.int .i64 0), (.int .i64 0), (.int .i64 0), (.int .i64 0), (.slice none 0 0), (.slice none 0 0)])) (by kernel_rfl) rfl (by kernel_rfl) (by kernel_rfl)
theorem tok34 : TyOk E.P 34 ti34 := tyOkV (z := (.agg #[(.int .i64 0), (.int .i64 0), (.bool false), (.int .i64 0), (.int .i64 0), (.int .i64 0), (.int .i64 0), (.int .i64 0), (.int .i64 0), (.int .i64 0), (.int .i64 0), (.int .i64 0), (.int .i64 0), (.int .i64 0), (.int .i64 0), (.int .i64 0), (.int .i64 0), (.int .i64 0), (.int .i64 0), (.int .i64 0), (.int .i64 0), (.int .i64 0), (.int .i64 0), (.int .i64 0), (.int .i64 0), (.int .i64 0), (.int .i64 0), (.int .i64 0), (.int .i64 0), (.int .i64 0), (.int .i64 0), (.int .i64 0), (.int .i64 0), (.int .i64 0), (.int .i64 0), (.int .i64 0), (.int .i64 0), (.int .i64 0), (.int .i64 0), (.int .i64 0), (.int .i64 0), (.int .i64 0), (.int .i64 0), (.int .i64 0), (.int .i64 0), (.slice none 0 0), (.slice none 0 0), (.int .i64 0), (.int .i64 0), (.int .i64 0), (.int .i64 0), (.int .i64 0), (.int .i64 0), (.int .i64 0), (.int .i64 0), (.int .i64 0), (.slice none 0 0), (.slice none 0 0), (.slice none 0 0), (.slice none 0 0), (.slice none 0 0), (.slice none 0 0), (.slice none 0 0), (.slice none 0 0), (.int .i64 0), (.int .i64 0), (.int .i64 0), (.int .i64 0), (.int .i64 0), (.int .i64 0), (.int .i64 0), (.int .i64 0), (.int .i64 0), (.int .i64 0), (.int .i64 0), (.int .i64 0), (.int .i64 0), (.int .i64 0), (.int .i64 0), (.int .i64 0), (.int .i64 0), (.int .i64 0), (.int .i64 0), (.int .i64 0), (.int .i64 0), (.int .i64 0), (.int .i64 0), (.int .i64 0), (.int .i64 0), (.int .i64 0), (.int .i64 0), (.int .i64 0), (.int .i64 0), (.int .i64 0), (.int .i64 0), (.int .i64 0), (.int .i64 0), (.int .i64 0), (.int .i64 0), (.int .i64 0), (.int .i64 0), (.int .i64 0), (.int .i64 0), (.int .i64 0), (.int .i64 0), (.int .i64 0), (.int .i64 0), (.int .i64 0), (.int .i64 0), (.int .i64 0), (.int .i64 0), (.int .i64 0), (.int .i64 0), (.int .i64 0), (.int .i64 0), (.int .i64 0), (.int .i64 0), (.int .i64 0), (.int .i64 0), (.int .i64 0), (.int .i64 0), (.int .i64 0), (.int .i64 0), (.int .i64 0), (.int .i64 0), (.int .i64 0), (.int .i64 0), (.int .i64 0), (.int .i64 0), (.int .i64 0), (.int .i64 0), (.int .i64 0), (.int .i64 0), (.int .i64 0), (.int .i64 0), (.int .i64 0), (.int .i64 0), (.int .i64 0), (.int .i64 0), (.int .i64 0), (.int .i64 0), (.int .i64 0), (.int .i64 0), (.int .i64 0), (.int .i64 0), (.int .i64 0), (.int .i64 0), (.int .i64 0), (.int .i64 0), (.int .i64 0), (.int .i64 0), (.int .i64 0), (.slice none 0 0), (.slice none 0 0)])) (by kernel_rfl) rfl (by kernel_rfl) (by kernel_rfl)
theorem tok40 : TyOk E.P 40 ti40 := tyOkV (z := (.agg #[(.int .i64 0), (.int .i64 0)])) (by kernel_rfl) rfl (by kernel_rfl) (by kernel_rfl)
theorem tok41 : TyOk E.P 41 ti41 := tyOkV (z := (.agg #[(.int .i64 0), (.int .i64 0)])) (by kernel_rfl) rfl (by kernel_rfl) (by kernel_rfl)
theorem tok42 : TyOk E.P 42 ti42 := tyOkV (z := (.agg #[(.int .i64 0), (.int .i64 0), (.int .i64 0), (.int .i64 0), (.int .i64 0), (.string ⟨#[]⟩), (.string ⟨#[]⟩), (.string ⟨#[]⟩)])) (by kernel_rfl) rfl (by kernel_rfl) (by kernel_rfl)
theorem tok43 : TyOk E.P 43 ti43 := tyOkV (z := (.agg #[(.int .i64 0), (.int .i64 0), (.int .i64 0), (.int .i64 0), (.int .i64 0), (.string ⟨#[]⟩), (.string ⟨#[]⟩), (.string ⟨#[]⟩)])) (by kernel_rfl) rfl (by kernel_rfl) (by kernel_rfl)
theorem tok44 : TyOk E.P 44 ti44 := tyOkV (z := (.agg #[(.int .i64 0), (.int .i64 0)])) (by kernel_rfl) rfl (by kernel_rfl) (by kernel_rfl)
theorem tok45 : TyOk E.P 45 ti45 := tyOkV (z := (.agg #[(.int .i64 0), (.int .i64 0)])) (by kernel_rfl) rfl (by kernel_rfl) (by kernel_rfl)
theorem tok46 : TyOk E.P 46 ti46 := tyOkV (z := (.agg #[(.int .i64 0), (.int .i64 0)])) (by kernel_rfl) rfl (by kernel_rfl) (by kernel_rfl)
theorem tok47 : TyOk E.P 47 ti47 := tyOkV (z := (.agg #[(.int .i64 0), (.int .i64 0)])) (by kernel_rfl) rfl (by kernel_rfl) (by kernel_rfl)
theorem tok48 : TyOk E.P 48 ti48 := tyOkV (z := (.slice none 0 0)) (by kernel_rfl) rfl (by kernel_rfl) (by kernel_rfl)
theorem tok49 : TyOk E.P 49 ti49 := tyOkV (z := (.slice none 0 0)) (by kernel_rfl) rfl (by kernel_rfl) (by kernel_rfl)
theorem tok50 : TyOk E.P 50 ti50 := tyOkV (z := (.agg #[(.int .i64 0), (.int .i64 0), (.int .i64 0), (.slice none 0 0)])) (by kernel_rfl) rfl (by kernel_rfl) (by kernel_rfl)
theorem tok51 : TyOk E.P 51 ti51 := tyOkV (z := (.agg #[(.int .i64 0), (.int .i64 0), (.int .i64 0), (.slice none 0 0)])) (by kernel_rfl) rfl (by kernel_rfl) (by kernel_rfl)
theorem tok52 : TyOk E.P 52 ti52 := tyOkV (z := (.agg #[(.int .i64 0), (.int .i64 0), (.int .i64 0), (.int .i64 0), (.int .i64 0), (.int .i64 0), (.int .i64 0), (.int .i64 0), (.string ⟨#[]⟩), (.string ⟨#[]⟩), (.string ⟨#[]⟩), (.int .i64 0), (.int .i64 0), (.slice none 0 0), (.int .i64 0), (.int .i64 0), (.int .i64 0), (.int .i64 0), (.int .i64 0), (.int .i64 0), (.int .i64 0), (.int .i64 0), (.int .i64 0), (.int .i64 0), (.int .i64 0), (.int .i64 0), (.int .i64 0), (.int .i64 0), (.int .i64 0), (.int .i64 0), (.int .i64 0), (.int .i64 0), (.int .i64 0), (.int .i64 0), (.int .i64 0), (.int .i64 0), (.int .i64 0), (.int .i64 0), (.int .i64 0), (.int .i64 0), (.int .i64 0), (.int .i64 0), (.int .i64 0), (.int .i64 0), (.int .i64 0), (.int .i64 0), (.int .i64 0), (.int .i64 0), (.int .i64 0), (.int .i64 0), (.int .i64 0), (.int .i64 0), (.slice none 0 0), (.int .i64 0), (.int .i64 0), (.int .i64 0)])) (by kernel_rfl) rfl (by kernel_rfl) (by kernel_rfl)
theorem tok53 : TyOk E.P 53 ti53 := tyOkV (z := (.agg #[(.int .i64 0), (.int .i64 0), (.int .i64 0), (.int .i64 0), (.int .i64 0), (.int .i64 0), (.int .i64 0), (.int .i64 0), (.string ⟨#[]⟩), (.string ⟨#[]⟩), (.string ⟨#[]⟩), (.int .i64 0), (.int .i64 0), (.slice none 0 0), (.int .i64 0), (.int .i64 0), (.int .i64 0), (.int .i64 0), (.int .i64 0), (.int .i64 0), (.int .i64 0), (.int .i64 0), (.int .i64 0), (.int .i64 0), (.int .i64 0), (.int .i64 0), (.int .i64 0), (.int .i64 0), (.int .i64 0), (.int .i64 0), (.int .i64 0), (.int .i64 0), (.int .i64 0), (.int .i64 0), (.int .i64 0), (.int .i64 0), (.int .i64 0), (.int .i64 0), (.int .i64 0), (.int .i64 0), (.int .i64 0), (.int .i64 0), (.int .i64 0), (.int .i64 0), (.int .i64 0), (.int .i64 0), (.int .i64 0), (.int .i64 0), (.int .i64 0), (.int .i64 0), (.int .i64 0), (.int .i64 0), (.slice none 0 0), (.int .i64 0), (.int .i64 0), (.int .i64 0)])) (by kernel_rfl) rfl (by kernel_rfl) (by kernel_rfl)
theorem tok54 : TyOk E.P 54 ti54 := tyOkV (z := (.agg #[(.int .i64 0), (.int .i64 0), (.int .i64 0), (.int .i64 0), (.int .i64 0), (.int .i64 0), (.int .i64 0), (.int .i64 0), (.slice none 0 0), (.int .i64 0), (.int .i64 0), (.int .i64 0), (.int .i64 0), (.int .i64 0), (.int .i64 0), (.int .i64 0), (.int .i64 0), (.string ⟨#[]⟩), (.string ⟨#[]⟩), (.string ⟨#[]⟩), (.int .i64 0), (.int .i64 0), (.slice none 0 0), (.int .i64 0), (.int .i64 0), (.int .i64 0), (.int .i64 0), (.int .i64 0), (.int .i64 0), (.int .i64 0), (.int .i64 0), (.int .i64 0), (.int .i64 0), (.int .i64 0), (.int .i64 0), (.int .i64 0), (.int .i64 0), (.int .i64 0), (.int .i64 0), (.int .i64 0), (.int .i64 0), (.int .i64 0), (.int .i64 0), (.int .i64 0), (.int .i64 0), (.int .i64 0), (.int .i64 0), (.int .i64 0), (.int .i64 0), (.int .i64 0), (.int .i64 0), (.int .i64 0), (.int .i64 0), (.int .i64 0), (.int .i64 0), (.int .i64 0), (.int .i64 0), (.int .i64 0), (.int .i64 0), (.int .i64 0), (.int .i64 0), (.slice none 0 0), (.int .i64 0), (.int .i64 0), (.int .i64 0), (.int .i64 0), (.int .i64 0), (.int .i64 0), (.int .i64 0), (.int .i64 0), (.int .i64 0), (.int .i64 0), (.int .i64 0), (.int .i64 0), (.int .i64 0), (.int .i64 0), (.slice none 0 0), (.int .i64 0), (.int .i64 0), (.int .i64 0), (.int .i64 0), (.int .i64 0), (.int .i64 0), (.int .i64 0), (.int .i64 0), (.int .i64 0), (.int .i64 0), (.int .i64 0), (.int .i64 0), (.int .i64 0), (.int .i64 0), (.int .i64 0), (.int .i64 0), (.int .i64 0), (.int .i64 0), (.int .i64 0), (.int .i64 0), (.int .i64 0), (.int .i64 0), (.int .i64 0), (.int .i64 0), (.int .i64 0), (.int .i64 0), (.int .i64 0), (.int .i64 0), (.slice none 0 0)])) (by kernel_rfl) rfl (by kernel_rfl) (by kernel_rfl)
theorem tok55 : TyOk E.P 55 ti55 := tyOkV (z := (.agg #[(.int .i64 0), (.int .i64 0), (.int .i64 0), (.int .i64 0), (.int .i64 0), (.int .i64 0), (.int .i64 0), (.int .i64 0), (.slice none 0 0), (.int .i64 0), (.int .i64 0), (.int .i64 0), (.int .i64 0), (.int .i64 0), (.int .i64 0), (.int .i64 0), (.int .i64 0), (.string ⟨#[]⟩), (.string ⟨#[]⟩), (.string ⟨#[]⟩), (.int .i64 0), (.int .i64 0), (.slice none 0 0), (.int .i64 0), (.int .i64 0), (.int .i64 0), (.int .i64 0), (.int .i64 0), (.int .i64 0), (.int .i64 0), (.int .i64 0), (.int .i64 0), (.int .i64 0), (.int .i64 0), (.int .i64 0), (.int .i64 0), (.int .i64 0), (.int .i64 0), (.int .i64 0), (.int .i64 0), (.int .i64 0), (.int .i64 0), (.int .i64 0), (.int .i64 0), (.int .i64 0), (.int .i64 0), (.int .i64 0), (.int .i64 0), (.int .i64 0), (.int .i64 0), (.int .i64 0), (.int .i64 0), (.int .i64 0), (.int .i64 0), (.int .i64 0), (.int .i64 0), (.int .i64 0), (.int .i64 0), (.int .i64 0), (.int .i64 0), (.int .i64 0), (.slice none 0 0), (.int .i64 0), (.int .i64 0), (.int .i64 0), (.int .i64 0), (.int .i64 0), (.int .i64 0), (.int .i64 0), (.int .i64 0), (.int .i64 0), (.int .i64 0), (.int .i64 0), (.int .i64 0), (.int .i64 0), (.int .i64 0), (.slice none 0 0), (.int .i64 0), (.int .i64 0), (.int .i64 0), (.int .i64 0), (.int .i64 0), (.int .i64 0), (.int .i64 0), (.int .i64 0), (.int .i64 0), (.int .i64 0), (.int .i64 0), (.int .i64 0), (.int .i64 0), (.int .i64 0), (.int .i64 0), (.int .i64 0), (.int .i64 0), (.int .i64 0), (.int .i64 0), (.int .i64 0), (.int .i64 0), (.int .i64 0), (.int .i64 0), (.int .i64 0), (.int .i64 0), (.int .i64 0), (.int .i64 0), (.int .i64 0), (.slice none 0 0)])) (by kernel_rfl) rfl (by kernel_rfl) (by kernel_rfl)
theorem tok56 : TyOk E.P 56 ti56 := tyOkV (z := (.int .i64 0)) (by kernel_rfl) rfl (by kernel_rfl) (by kernel_rfl)
theorem tok60 : TyOk E.P 60 ti60 := tyOkV (z := (.slice none 0 0)) (by kernel_rfl) rfl (by kernel_rfl) (by kernel_rfl)
theorem tok96 : TyOk E.P 96 ti96 := tyOkV (z := (.slice none 0 0)) (by kernel_rfl) rfl (by kernel_rfl) (by kernel_rfl)
theorem tok98 : TyOk E.P 98 ti98 := tyOkV (z := (.agg #[(.int .i64 0), (.int .i64 0), (.string ⟨#[]⟩), (.slice none 0 0)])) (by kernel_rfl) rfl (by kernel_rfl) (by kernel_rfl)
theorem tok101 : TyOk E.P 101 ti101 := tyOkV (z := (.agg #[(.int .i64 0), (.int .i64 0), (.int .i64 0), (.int .i64 0), (.int .i64 0), (.int .i64 0), (.int .i64 0), (.int .i64 0), (.int .i64 0), (.int .i64 0), (.int .i64 0), (.string ⟨#[]⟩), (.string ⟨#[]⟩), (.string ⟨#[]⟩), (.int .i64 0), (.int .i64 0), (.slice none 0 0), (.int .i64 0), (.int .i64 0), (.int .i64 0), (.int .i64 0), (.int .i64 0), (.int .i64 0), (.int .i64 0), (.int .i64 0), (.int .i64 0), (.int .i64 0), (.int .i64 0), (.int .i64 0), (.int .i64 0), (.int .i64 0), (.int .i64 0), (.int .i64 0), (.int .i64 0), (.int .i64 0), (.int .i64 0), (.int .i64 0), (.int .i64 0), (.int .i64 0), (.int .i64 0), (.int .i64 0), (.int .i64 0), (.int .i64 0), (.int .i64 0), (.int .i64 0), (.int .i64 0), (.int .i64 0), (.int .i64 0), (.int .i64 0), (.int .i64 0), (.int .i64 0), (.int .i64 0), (.int .i64 0), (.int .i64 0), (.int .i64 0), (.slice none 0 0), (.int .i64 0), (.int .i64 0), (.int .i64 0)])) (by kernel_rfl) rfl (by kernel_rfl) (by kernel_rfl)
theorem tok102 : TyOk E.P 102 ti102 := tyOkV (z := (.slice none 0 0)) (by kernel_rfl) rfl (by kernel_rfl) (by kernel_rfl)
theorem tok107 : TyOk E.P 107 ti107 := tyOkV (z := (.slice none 0 0)) (by kernel_rfl) rfl (by kernel_rfl) (by kernel_rfl)
theorem tok115 : TyOk E.P 115 ti115 := tyOkV (z := (.slice none 0 0)) (by kernel_rfl) rfl (by kernel_rfl) (by kernel_rfl)
theorem tok126 : TyOk E.P 126 ti126 := tyOkV (z := (.slice none 0 0)) (by kernel_rfl) rfl (by kernel_rfl) (by kernel_rfl)
theorem tok157 : TyOk E.P 157 ti157 := tyOkV (z := (.agg #[(.int .i64 0), (.int .i64 0), (.int .i64 0), (.int .i64 0)])) (by kernel_rfl) rfl (by kernel_rfl) (by kernel_rfl)
theorem tok159 : TyOk E.P 159 ti159 := tyOkV (z := (.agg #[(.int .i64 0), (.int .i64 0), (.int .i64 0), (.int .i64 0), (.int .i64 0), (.int .i64 0)])) (by kernel_rfl) rfl (by kernel_rfl) (by kernel_rfl)
theorem tok169 : TyOk E.P 169 ti169 := tyOkV (z := (.agg #[(.string ⟨#[]⟩), (.string ⟨#[]⟩)])) (by kernel_rfl) rfl (by kernel_rfl) (by kernel_rfl)
theorem eOk : E.Ok := by
  intro t i h
  have h' : tyT t = some i := h
  unfold tyT at h'
  split at h' <;> first
    | (cases h'; first | exact tok2 | exact tok3 | exact tok4 | exact tok5 | exact tok9 | exact tok12 | exact tok21 | exact tok22 | exact tok23 | exact tok24 | exact tok25 | exact tok26 | exact tok27 | exact tok28 | exact tok29 | exact tok30 | exact tok31 | exact tok32 | exact tok33 | exact tok34 | exact tok40 | exact tok41 | exact tok42 | exact tok43 | exact tok44 | exact tok45 | exact tok46 | exact tok47 | exact tok48 | exact tok49 | exact tok50 | exact tok51 | exact tok52 | exact tok53 | exact tok54 | exact tok55 | exact tok56 | exact tok60 | exact tok96 | exact tok98 | exact tok101 | exact tok102 | exact tok107 | exact tok115 | exact tok126 | exact tok157 | exact tok159 | exact tok169)
    | cases h'
theorem eEq : E.EqOk := by
  intro t ks h
  have h' : eqT t = some ks := h
  unfold eqT at h'
  split at h' <;> first
    | (cases h'; exact ⟨by kernel_rfl, by kernel_rfl, by kernel_rfl⟩)
    | cases h'
theorem eGood : Go.Ev.Good E := ⟨eOk, eEq, by kernel_rfl⟩
structure GEpoch where
  Number : Int
  States : Vector (Int) 8
  Seals : Vector (Int) 8
  Sponsor : Vector (Int) 8
instance : Inhabited GEpoch := ⟨⟨default, default, default, default⟩⟩
structure GAttr where
  Key : List UInt8
  Value : List UInt8
instance : Inhabited GAttr := ⟨⟨default, default⟩⟩
structure GTreeNode where
  Node : Int
  Parent : Int
  Name : List UInt8
  Attrs : List (GAttr)
instance : Inhabited GTreeNode := ⟨⟨default, default, default, default⟩⟩
structure GStamp where
  Time : Int
  Site : Int
instance : Inhabited GStamp := ⟨⟨default, default⟩⟩
structure GOp where
  Stamp : GStamp
  Kind : Int
  Node : Int
  Parent : Int
  Name : List UInt8
  Key : List UInt8
  Value : List UInt8
instance : Inhabited GOp := ⟨⟨default, default, default, default, default, default, default⟩⟩
structure GReply where
  Err : Int
  Stamp : GStamp
  Node : Int
instance : Inhabited GReply := ⟨⟨default, default, default⟩⟩
structure GRow where
  Session : Int
  Request : Int
  Reply : GReply
instance : Inhabited GRow := ⟨⟨default, default, default⟩⟩
structure GPart where
  Snap : Int
  Index : Int
  Many : Int
  Data : List (Int)
instance : Inhabited GPart := ⟨⟨default, default, default, default⟩⟩
structure GSnap where
  Site : Int
  Applied : Int
  Booted : Bool
  Epoch : GEpoch
  Clock : Int
  Vector_ : Vector (Int) 8
  Last : Vector (Int) 8
  Base : List (GTreeNode)
  Log : List (GOp)
  Frontier : Int
  Starts : Vector (Int) 8
  Kept : Vector (List (GOp)) 8
  Known : Vector (Vector (Int) 8) 8
  Told : Vector (Int) 8
  Clocks : Vector (Int) 8
  Sure : Vector (Int) 8
  Rows : List (GRow)
  Parts : List (GPart)
instance : Inhabited GSnap := ⟨⟨default, default, default, default, default, default, default, default, default, default, default, default, default, default, default, default, default, default⟩⟩
structure GAddr where
  Group : Int
  Replica : Int
instance : Inhabited GAddr := ⟨⟨default, default⟩⟩
structure GBallot where
  Round : Int
  Replica : Int
instance : Inhabited GBallot := ⟨⟨default, default⟩⟩
structure GEntry where
  Kind : Int
  Session : Int
  Request : Int
  Op : GOp
  Origin : Int
  Seq : Int
  Ops : List (GOp)
  Epoch : GEpoch
  From : Int
  Vector_ : Vector (Int) 8
  Clock : Int
  Part : GPart
  Site : Int
  Sponsor : Int
  Length : Int
instance : Inhabited GEntry := ⟨⟨default, default, default, default, default, default, default, default, default, default, default, default, default, default, default⟩⟩
structure GSlotted where
  Slot : Int
  Ballot : GBallot
  Entry : GEntry
instance : Inhabited GSlotted := ⟨⟨default, default, default⟩⟩
structure GMsg where
  Kind : Int
  From : GAddr
  To : GAddr
  Ballot : GBallot
  Slot : Int
  List_ : List (GSlotted)
  Entry : GEntry
  Number : Int
  Vector_ : Vector (Int) 8
  Clock : Int
  Origin : Int
  Ops : List (GOp)
  Epoch : GEpoch
  Part : GPart
instance : Inhabited GMsg := ⟨⟨default, default, default, default, default, default, default, default, default, default, default, default, default, default⟩⟩
@[reducible] def τ : Nat → Type
  | 2 => Int
  | 3 => Int
  | 4 => Bool
  | 5 => Int
  | 9 => List UInt8
  | 12 => Int
  | 21 => Int
  | 22 => Vector (Int) 8
  | 23 => Vector (Int) 8
  | 24 => Vector (Int) 8
  | 25 => GEpoch
  | 26 => GEpoch
  | 27 => List (GTreeNode)
  | 28 => List (GOp)
  | 29 => Vector (List (GOp)) 8
  | 30 => Vector (Vector (Int) 8) 8
  | 31 => List (GRow)
  | 32 => List (GPart)
  | 33 => GSnap
  | 34 => GSnap
  | 40 => GStamp
  | 41 => GStamp
  | 42 => GOp
  | 43 => GOp
  | 44 => GAddr
  | 45 => GAddr
  | 46 => GBallot
  | 47 => GBallot
  | 48 => List (GSlotted)
  | 49 => List (Int)
  | 50 => GPart
  | 51 => GPart
  | 52 => GEntry
  | 53 => GEntry
  | 54 => GMsg
  | 55 => GMsg
  | 56 => Int
  | 60 => List (Int)
  | 96 => List (GAttr)
  | 98 => GTreeNode
  | 101 => GSlotted
  | 102 => List (List UInt8)
  | 107 => List (GAddr)
  | 115 => List (Vector (Int) 8)
  | 126 => List (Int)
  | 157 => GReply
  | 159 => GRow
  | 169 => GAttr
  | _ => Unit
def cel2 (x : Int) : List AV := [.v (.int .i64 x)]
def enc2 (x : Int) : TV τ := .int .i64 x
def dec2 (x : TV τ) : Option (Int) := dInt .i64 x
def beq2 (x y : Int) : Bool := (x == y)
def cel3 (x : Int) : List AV := [.v (.int .i64 x)]
def enc3 (x : Int) : TV τ := .int .i64 x
def dec3 (x : TV τ) : Option (Int) := dInt .i64 x
def beq3 (x y : Int) : Bool := (x == y)
def cel4 (x : Bool) : List AV := [.v (.bool x)]
def enc4 (x : Bool) : TV τ := .bool x
def dec4 (x : TV τ) : Option (Bool) := dBool x
def beq4 (x y : Bool) : Bool := (x == y)
def cel5 (x : Int) : List AV := [.v (.int .u8 x)]
def enc5 (x : Int) : TV τ := .int .u8 x
def dec5 (x : TV τ) : Option (Int) := dInt .u8 x
def beq5 (x y : Int) : Bool := (x == y)
def cel9 (x : List UInt8) : List AV := [.v (.string ⟨⟨x⟩⟩)]
def enc9 (x : List UInt8) : TV τ := .str x
def dec9 (x : TV τ) : Option (List UInt8) := dStr x
def beq9 (x y : List UInt8) : Bool := (x == y)
def cel12 (x : Int) : List AV := [.v (.int .u64 x)]
def enc12 (x : Int) : TV τ := .int .u64 x
def dec12 (x : TV τ) : Option (Int) := dInt .u64 x
def beq12 (x y : Int) : Bool := (x == y)
def cel21 (x : Int) : List AV := [.v (.int .i32 x)]
def enc21 (x : Int) : TV τ := .int .i32 x
def dec21 (x : TV τ) : Option (Int) := dInt .i32 x
def beq21 (x y : Int) : Bool := (x == y)
def cel22 (x : Vector (Int) 8) : List AV := x.toList.flatMap cel3
def enc22 (x : Vector (Int) 8) : TV τ := .arr 3 8 x
def dec22 (x : TV τ) : Option (Vector (Int) 8) := dArr 3 8 x
def beq22 (x y : Vector (Int) 8) : Bool := vbeq beq3 x y
def cel23 (x : Vector (Int) 8) : List AV := x.toList.flatMap cel2
def enc23 (x : Vector (Int) 8) : TV τ := .arr 2 8 x
def dec23 (x : TV τ) : Option (Vector (Int) 8) := dArr 2 8 x
def beq23 (x y : Vector (Int) 8) : Bool := vbeq beq2 x y
def cel24 (x : Vector (Int) 8) : List AV := x.toList.flatMap cel2
def enc24 (x : Vector (Int) 8) : TV τ := .arr 2 8 x
def dec24 (x : TV τ) : Option (Vector (Int) 8) := dArr 2 8 x
def beq24 (x y : Vector (Int) 8) : Bool := vbeq beq2 x y
def cel25 (x : GEpoch) : List AV := (cel2 x.Number ++ (cel22 x.States ++ (cel24 x.Seals ++ (cel22 x.Sponsor ++ []))))
def enc25 (x : GEpoch) : TV τ := .agg [enc2 x.Number, enc22 x.States, enc24 x.Seals, enc22 x.Sponsor]
def dec25 (x : TV τ) : Option (GEpoch) := (match x with | .agg [x0, x1, x2, x3] => (match dec2 x0 with | some a0 => (match dec22 x1 with | some a1 => (match dec24 x2 with | some a2 => (match dec22 x3 with | some a3 => some ⟨a0, a1, a2, a3⟩ | none => none) | none => none) | none => none) | none => none) | _ => none)
def beq25 (x y : GEpoch) : Bool := (beq2 x.Number y.Number && (beq22 x.States y.States && (beq24 x.Seals y.Seals && (beq22 x.Sponsor y.Sponsor && true))))
def cel26 (x : GEpoch) : List AV := (cel2 x.Number ++ (cel22 x.States ++ (cel24 x.Seals ++ (cel22 x.Sponsor ++ []))))
def enc26 (x : GEpoch) : TV τ := .agg [enc2 x.Number, enc22 x.States, enc24 x.Seals, enc22 x.Sponsor]
def dec26 (x : TV τ) : Option (GEpoch) := (match x with | .agg [x0, x1, x2, x3] => (match dec2 x0 with | some a0 => (match dec22 x1 with | some a1 => (match dec24 x2 with | some a2 => (match dec22 x3 with | some a3 => some ⟨a0, a1, a2, a3⟩ | none => none) | none => none) | none => none) | none => none) | _ => none)
def beq26 (x y : GEpoch) : Bool := (beq2 x.Number y.Number && (beq22 x.States y.States && (beq24 x.Seals y.Seals && (beq22 x.Sponsor y.Sponsor && true))))
def cel169 (x : GAttr) : List AV := (cel9 x.Key ++ (cel9 x.Value ++ []))
def enc169 (x : GAttr) : TV τ := .agg [enc9 x.Key, enc9 x.Value]
def dec169 (x : TV τ) : Option (GAttr) := (match x with | .agg [x0, x1] => (match dec9 x0 with | some a0 => (match dec9 x1 with | some a1 => some ⟨a0, a1⟩ | none => none) | none => none) | _ => none)
def beq169 (x y : GAttr) : Bool := (beq9 x.Key y.Key && (beq9 x.Value y.Value && true))
def cel96 (x : List (GAttr)) : List AV := [.asl 2 (x.map cel169)]
def enc96 (x : List (GAttr)) : TV τ := .sl 169 x .any
def dec96 (x : TV τ) : Option (List (GAttr)) := dSl 169 x
def cel98 (x : GTreeNode) : List AV := (cel2 x.Node ++ (cel2 x.Parent ++ (cel9 x.Name ++ (cel96 x.Attrs ++ []))))
def enc98 (x : GTreeNode) : TV τ := .agg [enc2 x.Node, enc2 x.Parent, enc9 x.Name, enc96 x.Attrs]
def dec98 (x : TV τ) : Option (GTreeNode) := (match x with | .agg [x0, x1, x2, x3] => (match dec2 x0 with | some a0 => (match dec2 x1 with | some a1 => (match dec9 x2 with | some a2 => (match dec96 x3 with | some a3 => some ⟨a0, a1, a2, a3⟩ | none => none) | none => none) | none => none) | none => none) | _ => none)
def cel27 (x : List (GTreeNode)) : List AV := [.asl 4 (x.map cel98)]
def enc27 (x : List (GTreeNode)) : TV τ := .sl 98 x .any
def dec27 (x : TV τ) : Option (List (GTreeNode)) := dSl 98 x
def cel41 (x : GStamp) : List AV := (cel2 x.Time ++ (cel3 x.Site ++ []))
def enc41 (x : GStamp) : TV τ := .agg [enc2 x.Time, enc3 x.Site]
def dec41 (x : TV τ) : Option (GStamp) := (match x with | .agg [x0, x1] => (match dec2 x0 with | some a0 => (match dec3 x1 with | some a1 => some ⟨a0, a1⟩ | none => none) | none => none) | _ => none)
def beq41 (x y : GStamp) : Bool := (beq2 x.Time y.Time && (beq3 x.Site y.Site && true))
def cel43 (x : GOp) : List AV := (cel41 x.Stamp ++ (cel3 x.Kind ++ (cel2 x.Node ++ (cel2 x.Parent ++ (cel9 x.Name ++ (cel9 x.Key ++ (cel9 x.Value ++ [])))))))
def enc43 (x : GOp) : TV τ := .agg [enc41 x.Stamp, enc3 x.Kind, enc2 x.Node, enc2 x.Parent, enc9 x.Name, enc9 x.Key, enc9 x.Value]
def dec43 (x : TV τ) : Option (GOp) := (match x with | .agg [x0, x1, x2, x3, x4, x5, x6] => (match dec41 x0 with | some a0 => (match dec3 x1 with | some a1 => (match dec2 x2 with | some a2 => (match dec2 x3 with | some a3 => (match dec9 x4 with | some a4 => (match dec9 x5 with | some a5 => (match dec9 x6 with | some a6 => some ⟨a0, a1, a2, a3, a4, a5, a6⟩ | none => none) | none => none) | none => none) | none => none) | none => none) | none => none) | none => none) | _ => none)
def beq43 (x y : GOp) : Bool := (beq41 x.Stamp y.Stamp && (beq3 x.Kind y.Kind && (beq2 x.Node y.Node && (beq2 x.Parent y.Parent && (beq9 x.Name y.Name && (beq9 x.Key y.Key && (beq9 x.Value y.Value && true)))))))
def cel28 (x : List (GOp)) : List AV := [.asl 8 (x.map cel43)]
def enc28 (x : List (GOp)) : TV τ := .sl 43 x .any
def dec28 (x : TV τ) : Option (List (GOp)) := dSl 43 x
def cel29 (x : Vector (List (GOp)) 8) : List AV := x.toList.flatMap cel28
def enc29 (x : Vector (List (GOp)) 8) : TV τ := .arr 28 8 x
def dec29 (x : TV τ) : Option (Vector (List (GOp)) 8) := dArr 28 8 x
def cel30 (x : Vector (Vector (Int) 8) 8) : List AV := x.toList.flatMap cel24
def enc30 (x : Vector (Vector (Int) 8) 8) : TV τ := .arr 24 8 x
def dec30 (x : TV τ) : Option (Vector (Vector (Int) 8) 8) := dArr 24 8 x
def beq30 (x y : Vector (Vector (Int) 8) 8) : Bool := vbeq beq24 x y
def cel56 (x : Int) : List AV := [.v (.int .i64 x)]
def enc56 (x : Int) : TV τ := .int .i64 x
def dec56 (x : TV τ) : Option (Int) := dInt .i64 x
def beq56 (x y : Int) : Bool := (x == y)
def cel157 (x : GReply) : List AV := (cel56 x.Err ++ (cel41 x.Stamp ++ (cel2 x.Node ++ [])))
def enc157 (x : GReply) : TV τ := .agg [enc56 x.Err, enc41 x.Stamp, enc2 x.Node]
def dec157 (x : TV τ) : Option (GReply) := (match x with | .agg [x0, x1, x2] => (match dec56 x0 with | some a0 => (match dec41 x1 with | some a1 => (match dec2 x2 with | some a2 => some ⟨a0, a1, a2⟩ | none => none) | none => none) | none => none) | _ => none)
def beq157 (x y : GReply) : Bool := (beq56 x.Err y.Err && (beq41 x.Stamp y.Stamp && (beq2 x.Node y.Node && true)))
def cel159 (x : GRow) : List AV := (cel2 x.Session ++ (cel2 x.Request ++ (cel157 x.Reply ++ [])))
def enc159 (x : GRow) : TV τ := .agg [enc2 x.Session, enc2 x.Request, enc157 x.Reply]
def dec159 (x : TV τ) : Option (GRow) := (match x with | .agg [x0, x1, x2] => (match dec2 x0 with | some a0 => (match dec2 x1 with | some a1 => (match dec157 x2 with | some a2 => some ⟨a0, a1, a2⟩ | none => none) | none => none) | none => none) | _ => none)
def beq159 (x y : GRow) : Bool := (beq2 x.Session y.Session && (beq2 x.Request y.Request && (beq157 x.Reply y.Reply && true)))
def cel31 (x : List (GRow)) : List AV := [.asl 6 (x.map cel159)]
def enc31 (x : List (GRow)) : TV τ := .sl 159 x .any
def dec31 (x : TV τ) : Option (List (GRow)) := dSl 159 x
def cel49 (x : List (Int)) : List AV := [.asl 1 (x.map cel5)]
def enc49 (x : List (Int)) : TV τ := .sl 5 x .any
def dec49 (x : TV τ) : Option (List (Int)) := dSl 5 x
def cel51 (x : GPart) : List AV := (cel2 x.Snap ++ (cel3 x.Index ++ (cel3 x.Many ++ (cel49 x.Data ++ []))))
def enc51 (x : GPart) : TV τ := .agg [enc2 x.Snap, enc3 x.Index, enc3 x.Many, enc49 x.Data]
def dec51 (x : TV τ) : Option (GPart) := (match x with | .agg [x0, x1, x2, x3] => (match dec2 x0 with | some a0 => (match dec3 x1 with | some a1 => (match dec3 x2 with | some a2 => (match dec49 x3 with | some a3 => some ⟨a0, a1, a2, a3⟩ | none => none) | none => none) | none => none) | none => none) | _ => none)
def cel32 (x : List (GPart)) : List AV := [.asl 4 (x.map cel51)]
def enc32 (x : List (GPart)) : TV τ := .sl 51 x .any
def dec32 (x : TV τ) : Option (List (GPart)) := dSl 51 x
def cel33 (x : GSnap) : List AV := (cel3 x.Site ++ (cel2 x.Applied ++ (cel4 x.Booted ++ (cel26 x.Epoch ++ (cel2 x.Clock ++ (cel24 x.Vector_ ++ (cel24 x.Last ++ (cel27 x.Base ++ (cel28 x.Log ++ (cel2 x.Frontier ++ (cel24 x.Starts ++ (cel29 x.Kept ++ (cel30 x.Known ++ (cel24 x.Told ++ (cel24 x.Clocks ++ (cel24 x.Sure ++ (cel31 x.Rows ++ (cel32 x.Parts ++ []))))))))))))))))))
def enc33 (x : GSnap) : TV τ := .agg [enc3 x.Site, enc2 x.Applied, enc4 x.Booted, enc26 x.Epoch, enc2 x.Clock, enc24 x.Vector_, enc24 x.Last, enc27 x.Base, enc28 x.Log, enc2 x.Frontier, enc24 x.Starts, enc29 x.Kept, enc30 x.Known, enc24 x.Told, enc24 x.Clocks, enc24 x.Sure, enc31 x.Rows, enc32 x.Parts]
def dec33 (x : TV τ) : Option (GSnap) := (match x with | .agg [x0, x1, x2, x3, x4, x5, x6, x7, x8, x9, x10, x11, x12, x13, x14, x15, x16, x17] => (match dec3 x0 with | some a0 => (match dec2 x1 with | some a1 => (match dec4 x2 with | some a2 => (match dec26 x3 with | some a3 => (match dec2 x4 with | some a4 => (match dec24 x5 with | some a5 => (match dec24 x6 with | some a6 => (match dec27 x7 with | some a7 => (match dec28 x8 with | some a8 => (match dec2 x9 with | some a9 => (match dec24 x10 with | some a10 => (match dec29 x11 with | some a11 => (match dec30 x12 with | some a12 => (match dec24 x13 with | some a13 => (match dec24 x14 with | some a14 => (match dec24 x15 with | some a15 => (match dec31 x16 with | some a16 => (match dec32 x17 with | some a17 => some ⟨a0, a1, a2, a3, a4, a5, a6, a7, a8, a9, a10, a11, a12, a13, a14, a15, a16, a17⟩ | none => none) | none => none) | none => none) | none => none) | none => none) | none => none) | none => none) | none => none) | none => none) | none => none) | none => none) | none => none) | none => none) | none => none) | none => none) | none => none) | none => none) | none => none) | _ => none)
def cel34 (x : GSnap) : List AV := (cel3 x.Site ++ (cel2 x.Applied ++ (cel4 x.Booted ++ (cel26 x.Epoch ++ (cel2 x.Clock ++ (cel24 x.Vector_ ++ (cel24 x.Last ++ (cel27 x.Base ++ (cel28 x.Log ++ (cel2 x.Frontier ++ (cel24 x.Starts ++ (cel29 x.Kept ++ (cel30 x.Known ++ (cel24 x.Told ++ (cel24 x.Clocks ++ (cel24 x.Sure ++ (cel31 x.Rows ++ (cel32 x.Parts ++ []))))))))))))))))))
def enc34 (x : GSnap) : TV τ := .agg [enc3 x.Site, enc2 x.Applied, enc4 x.Booted, enc26 x.Epoch, enc2 x.Clock, enc24 x.Vector_, enc24 x.Last, enc27 x.Base, enc28 x.Log, enc2 x.Frontier, enc24 x.Starts, enc29 x.Kept, enc30 x.Known, enc24 x.Told, enc24 x.Clocks, enc24 x.Sure, enc31 x.Rows, enc32 x.Parts]
def dec34 (x : TV τ) : Option (GSnap) := (match x with | .agg [x0, x1, x2, x3, x4, x5, x6, x7, x8, x9, x10, x11, x12, x13, x14, x15, x16, x17] => (match dec3 x0 with | some a0 => (match dec2 x1 with | some a1 => (match dec4 x2 with | some a2 => (match dec26 x3 with | some a3 => (match dec2 x4 with | some a4 => (match dec24 x5 with | some a5 => (match dec24 x6 with | some a6 => (match dec27 x7 with | some a7 => (match dec28 x8 with | some a8 => (match dec2 x9 with | some a9 => (match dec24 x10 with | some a10 => (match dec29 x11 with | some a11 => (match dec30 x12 with | some a12 => (match dec24 x13 with | some a13 => (match dec24 x14 with | some a14 => (match dec24 x15 with | some a15 => (match dec31 x16 with | some a16 => (match dec32 x17 with | some a17 => some ⟨a0, a1, a2, a3, a4, a5, a6, a7, a8, a9, a10, a11, a12, a13, a14, a15, a16, a17⟩ | none => none) | none => none) | none => none) | none => none) | none => none) | none => none) | none => none) | none => none) | none => none) | none => none) | none => none) | none => none) | none => none) | none => none) | none => none) | none => none) | none => none) | none => none) | _ => none)
def cel40 (x : GStamp) : List AV := (cel2 x.Time ++ (cel3 x.Site ++ []))
def enc40 (x : GStamp) : TV τ := .agg [enc2 x.Time, enc3 x.Site]
def dec40 (x : TV τ) : Option (GStamp) := (match x with | .agg [x0, x1] => (match dec2 x0 with | some a0 => (match dec3 x1 with | some a1 => some ⟨a0, a1⟩ | none => none) | none => none) | _ => none)
def beq40 (x y : GStamp) : Bool := (beq2 x.Time y.Time && (beq3 x.Site y.Site && true))
def cel42 (x : GOp) : List AV := (cel41 x.Stamp ++ (cel3 x.Kind ++ (cel2 x.Node ++ (cel2 x.Parent ++ (cel9 x.Name ++ (cel9 x.Key ++ (cel9 x.Value ++ [])))))))
def enc42 (x : GOp) : TV τ := .agg [enc41 x.Stamp, enc3 x.Kind, enc2 x.Node, enc2 x.Parent, enc9 x.Name, enc9 x.Key, enc9 x.Value]
def dec42 (x : TV τ) : Option (GOp) := (match x with | .agg [x0, x1, x2, x3, x4, x5, x6] => (match dec41 x0 with | some a0 => (match dec3 x1 with | some a1 => (match dec2 x2 with | some a2 => (match dec2 x3 with | some a3 => (match dec9 x4 with | some a4 => (match dec9 x5 with | some a5 => (match dec9 x6 with | some a6 => some ⟨a0, a1, a2, a3, a4, a5, a6⟩ | none => none) | none => none) | none => none) | none => none) | none => none) | none => none) | none => none) | _ => none)
def beq42 (x y : GOp) : Bool := (beq41 x.Stamp y.Stamp && (beq3 x.Kind y.Kind && (beq2 x.Node y.Node && (beq2 x.Parent y.Parent && (beq9 x.Name y.Name && (beq9 x.Key y.Key && (beq9 x.Value y.Value && true)))))))
def cel44 (x : GAddr) : List AV := (cel3 x.Group ++ (cel3 x.Replica ++ []))
def enc44 (x : GAddr) : TV τ := .agg [enc3 x.Group, enc3 x.Replica]
def dec44 (x : TV τ) : Option (GAddr) := (match x with | .agg [x0, x1] => (match dec3 x0 with | some a0 => (match dec3 x1 with | some a1 => some ⟨a0, a1⟩ | none => none) | none => none) | _ => none)
def beq44 (x y : GAddr) : Bool := (beq3 x.Group y.Group && (beq3 x.Replica y.Replica && true))
def cel45 (x : GAddr) : List AV := (cel3 x.Group ++ (cel3 x.Replica ++ []))
def enc45 (x : GAddr) : TV τ := .agg [enc3 x.Group, enc3 x.Replica]
def dec45 (x : TV τ) : Option (GAddr) := (match x with | .agg [x0, x1] => (match dec3 x0 with | some a0 => (match dec3 x1 with | some a1 => some ⟨a0, a1⟩ | none => none) | none => none) | _ => none)
def beq45 (x y : GAddr) : Bool := (beq3 x.Group y.Group && (beq3 x.Replica y.Replica && true))
def cel46 (x : GBallot) : List AV := (cel2 x.Round ++ (cel3 x.Replica ++ []))
def enc46 (x : GBallot) : TV τ := .agg [enc2 x.Round, enc3 x.Replica]
def dec46 (x : TV τ) : Option (GBallot) := (match x with | .agg [x0, x1] => (match dec2 x0 with | some a0 => (match dec3 x1 with | some a1 => some ⟨a0, a1⟩ | none => none) | none => none) | _ => none)
def beq46 (x y : GBallot) : Bool := (beq2 x.Round y.Round && (beq3 x.Replica y.Replica && true))
def cel47 (x : GBallot) : List AV := (cel2 x.Round ++ (cel3 x.Replica ++ []))
def enc47 (x : GBallot) : TV τ := .agg [enc2 x.Round, enc3 x.Replica]
def dec47 (x : TV τ) : Option (GBallot) := (match x with | .agg [x0, x1] => (match dec2 x0 with | some a0 => (match dec3 x1 with | some a1 => some ⟨a0, a1⟩ | none => none) | none => none) | _ => none)
def beq47 (x y : GBallot) : Bool := (beq2 x.Round y.Round && (beq3 x.Replica y.Replica && true))
def cel53 (x : GEntry) : List AV := (cel3 x.Kind ++ (cel2 x.Session ++ (cel2 x.Request ++ (cel43 x.Op ++ (cel3 x.Origin ++ (cel2 x.Seq ++ (cel28 x.Ops ++ (cel26 x.Epoch ++ (cel3 x.From ++ (cel24 x.Vector_ ++ (cel2 x.Clock ++ (cel51 x.Part ++ (cel3 x.Site ++ (cel3 x.Sponsor ++ (cel2 x.Length ++ [])))))))))))))))
def enc53 (x : GEntry) : TV τ := .agg [enc3 x.Kind, enc2 x.Session, enc2 x.Request, enc43 x.Op, enc3 x.Origin, enc2 x.Seq, enc28 x.Ops, enc26 x.Epoch, enc3 x.From, enc24 x.Vector_, enc2 x.Clock, enc51 x.Part, enc3 x.Site, enc3 x.Sponsor, enc2 x.Length]
def dec53 (x : TV τ) : Option (GEntry) := (match x with | .agg [x0, x1, x2, x3, x4, x5, x6, x7, x8, x9, x10, x11, x12, x13, x14] => (match dec3 x0 with | some a0 => (match dec2 x1 with | some a1 => (match dec2 x2 with | some a2 => (match dec43 x3 with | some a3 => (match dec3 x4 with | some a4 => (match dec2 x5 with | some a5 => (match dec28 x6 with | some a6 => (match dec26 x7 with | some a7 => (match dec3 x8 with | some a8 => (match dec24 x9 with | some a9 => (match dec2 x10 with | some a10 => (match dec51 x11 with | some a11 => (match dec3 x12 with | some a12 => (match dec3 x13 with | some a13 => (match dec2 x14 with | some a14 => some ⟨a0, a1, a2, a3, a4, a5, a6, a7, a8, a9, a10, a11, a12, a13, a14⟩ | none => none) | none => none) | none => none) | none => none) | none => none) | none => none) | none => none) | none => none) | none => none) | none => none) | none => none) | none => none) | none => none) | none => none) | none => none) | _ => none)
def cel101 (x : GSlotted) : List AV := (cel2 x.Slot ++ (cel47 x.Ballot ++ (cel53 x.Entry ++ [])))
def enc101 (x : GSlotted) : TV τ := .agg [enc2 x.Slot, enc47 x.Ballot, enc53 x.Entry]
def dec101 (x : TV τ) : Option (GSlotted) := (match x with | .agg [x0, x1, x2] => (match dec2 x0 with | some a0 => (match dec47 x1 with | some a1 => (match dec53 x2 with | some a2 => some ⟨a0, a1, a2⟩ | none => none) | none => none) | none => none) | _ => none)
def cel48 (x : List (GSlotted)) : List AV := [.asl 59 (x.map cel101)]
def enc48 (x : List (GSlotted)) : TV τ := .sl 101 x .any
def dec48 (x : TV τ) : Option (List (GSlotted)) := dSl 101 x
def cel50 (x : GPart) : List AV := (cel2 x.Snap ++ (cel3 x.Index ++ (cel3 x.Many ++ (cel49 x.Data ++ []))))
def enc50 (x : GPart) : TV τ := .agg [enc2 x.Snap, enc3 x.Index, enc3 x.Many, enc49 x.Data]
def dec50 (x : TV τ) : Option (GPart) := (match x with | .agg [x0, x1, x2, x3] => (match dec2 x0 with | some a0 => (match dec3 x1 with | some a1 => (match dec3 x2 with | some a2 => (match dec49 x3 with | some a3 => some ⟨a0, a1, a2, a3⟩ | none => none) | none => none) | none => none) | none => none) | _ => none)
def cel52 (x : GEntry) : List AV := (cel3 x.Kind ++ (cel2 x.Session ++ (cel2 x.Request ++ (cel43 x.Op ++ (cel3 x.Origin ++ (cel2 x.Seq ++ (cel28 x.Ops ++ (cel26 x.Epoch ++ (cel3 x.From ++ (cel24 x.Vector_ ++ (cel2 x.Clock ++ (cel51 x.Part ++ (cel3 x.Site ++ (cel3 x.Sponsor ++ (cel2 x.Length ++ [])))))))))))))))
def enc52 (x : GEntry) : TV τ := .agg [enc3 x.Kind, enc2 x.Session, enc2 x.Request, enc43 x.Op, enc3 x.Origin, enc2 x.Seq, enc28 x.Ops, enc26 x.Epoch, enc3 x.From, enc24 x.Vector_, enc2 x.Clock, enc51 x.Part, enc3 x.Site, enc3 x.Sponsor, enc2 x.Length]
def dec52 (x : TV τ) : Option (GEntry) := (match x with | .agg [x0, x1, x2, x3, x4, x5, x6, x7, x8, x9, x10, x11, x12, x13, x14] => (match dec3 x0 with | some a0 => (match dec2 x1 with | some a1 => (match dec2 x2 with | some a2 => (match dec43 x3 with | some a3 => (match dec3 x4 with | some a4 => (match dec2 x5 with | some a5 => (match dec28 x6 with | some a6 => (match dec26 x7 with | some a7 => (match dec3 x8 with | some a8 => (match dec24 x9 with | some a9 => (match dec2 x10 with | some a10 => (match dec51 x11 with | some a11 => (match dec3 x12 with | some a12 => (match dec3 x13 with | some a13 => (match dec2 x14 with | some a14 => some ⟨a0, a1, a2, a3, a4, a5, a6, a7, a8, a9, a10, a11, a12, a13, a14⟩ | none => none) | none => none) | none => none) | none => none) | none => none) | none => none) | none => none) | none => none) | none => none) | none => none) | none => none) | none => none) | none => none) | none => none) | none => none) | _ => none)
def cel54 (x : GMsg) : List AV := (cel3 x.Kind ++ (cel45 x.From ++ (cel45 x.To ++ (cel47 x.Ballot ++ (cel2 x.Slot ++ (cel48 x.List_ ++ (cel53 x.Entry ++ (cel2 x.Number ++ (cel24 x.Vector_ ++ (cel2 x.Clock ++ (cel3 x.Origin ++ (cel28 x.Ops ++ (cel26 x.Epoch ++ (cel51 x.Part ++ []))))))))))))))
def enc54 (x : GMsg) : TV τ := .agg [enc3 x.Kind, enc45 x.From, enc45 x.To, enc47 x.Ballot, enc2 x.Slot, enc48 x.List_, enc53 x.Entry, enc2 x.Number, enc24 x.Vector_, enc2 x.Clock, enc3 x.Origin, enc28 x.Ops, enc26 x.Epoch, enc51 x.Part]
def dec54 (x : TV τ) : Option (GMsg) := (match x with | .agg [x0, x1, x2, x3, x4, x5, x6, x7, x8, x9, x10, x11, x12, x13] => (match dec3 x0 with | some a0 => (match dec45 x1 with | some a1 => (match dec45 x2 with | some a2 => (match dec47 x3 with | some a3 => (match dec2 x4 with | some a4 => (match dec48 x5 with | some a5 => (match dec53 x6 with | some a6 => (match dec2 x7 with | some a7 => (match dec24 x8 with | some a8 => (match dec2 x9 with | some a9 => (match dec3 x10 with | some a10 => (match dec28 x11 with | some a11 => (match dec26 x12 with | some a12 => (match dec51 x13 with | some a13 => some ⟨a0, a1, a2, a3, a4, a5, a6, a7, a8, a9, a10, a11, a12, a13⟩ | none => none) | none => none) | none => none) | none => none) | none => none) | none => none) | none => none) | none => none) | none => none) | none => none) | none => none) | none => none) | none => none) | none => none) | _ => none)
def cel55 (x : GMsg) : List AV := (cel3 x.Kind ++ (cel45 x.From ++ (cel45 x.To ++ (cel47 x.Ballot ++ (cel2 x.Slot ++ (cel48 x.List_ ++ (cel53 x.Entry ++ (cel2 x.Number ++ (cel24 x.Vector_ ++ (cel2 x.Clock ++ (cel3 x.Origin ++ (cel28 x.Ops ++ (cel26 x.Epoch ++ (cel51 x.Part ++ []))))))))))))))
def enc55 (x : GMsg) : TV τ := .agg [enc3 x.Kind, enc45 x.From, enc45 x.To, enc47 x.Ballot, enc2 x.Slot, enc48 x.List_, enc53 x.Entry, enc2 x.Number, enc24 x.Vector_, enc2 x.Clock, enc3 x.Origin, enc28 x.Ops, enc26 x.Epoch, enc51 x.Part]
def dec55 (x : TV τ) : Option (GMsg) := (match x with | .agg [x0, x1, x2, x3, x4, x5, x6, x7, x8, x9, x10, x11, x12, x13] => (match dec3 x0 with | some a0 => (match dec45 x1 with | some a1 => (match dec45 x2 with | some a2 => (match dec47 x3 with | some a3 => (match dec2 x4 with | some a4 => (match dec48 x5 with | some a5 => (match dec53 x6 with | some a6 => (match dec2 x7 with | some a7 => (match dec24 x8 with | some a8 => (match dec2 x9 with | some a9 => (match dec3 x10 with | some a10 => (match dec28 x11 with | some a11 => (match dec26 x12 with | some a12 => (match dec51 x13 with | some a13 => some ⟨a0, a1, a2, a3, a4, a5, a6, a7, a8, a9, a10, a11, a12, a13⟩ | none => none) | none => none) | none => none) | none => none) | none => none) | none => none) | none => none) | none => none) | none => none) | none => none) | none => none) | none => none) | none => none) | none => none) | _ => none)
def cel60 (x : List (Int)) : List AV := [.asl 1 (x.map cel3)]
def enc60 (x : List (Int)) : TV τ := .sl 3 x .any
def dec60 (x : TV τ) : Option (List (Int)) := dSl 3 x
def cel102 (x : List (List UInt8)) : List AV := [.asl 1 (x.map cel9)]
def enc102 (x : List (List UInt8)) : TV τ := .sl 9 x .any
def dec102 (x : TV τ) : Option (List (List UInt8)) := dSl 9 x
def cel107 (x : List (GAddr)) : List AV := [.asl 2 (x.map cel45)]
def enc107 (x : List (GAddr)) : TV τ := .sl 45 x .any
def dec107 (x : TV τ) : Option (List (GAddr)) := dSl 45 x
def cel115 (x : List (Vector (Int) 8)) : List AV := [.asl 8 (x.map cel24)]
def enc115 (x : List (Vector (Int) 8)) : TV τ := .sl 24 x .any
def dec115 (x : TV τ) : Option (List (Vector (Int) 8)) := dSl 24 x
def cel126 (x : List (Int)) : List AV := [.asl 1 (x.map cel2)]
def enc126 (x : List (Int)) : TV τ := .sl 2 x .any
def dec126 (x : TV τ) : Option (List (Int)) := dSl 2 x
def celT : (t : Nat) → τ t → List AV
  | 2 => cel2
  | 3 => cel3
  | 4 => cel4
  | 5 => cel5
  | 9 => cel9
  | 12 => cel12
  | 21 => cel21
  | 22 => cel22
  | 23 => cel23
  | 24 => cel24
  | 25 => cel25
  | 26 => cel26
  | 27 => cel27
  | 28 => cel28
  | 29 => cel29
  | 30 => cel30
  | 31 => cel31
  | 32 => cel32
  | 33 => cel33
  | 34 => cel34
  | 40 => cel40
  | 41 => cel41
  | 42 => cel42
  | 43 => cel43
  | 44 => cel44
  | 45 => cel45
  | 46 => cel46
  | 47 => cel47
  | 48 => cel48
  | 49 => cel49
  | 50 => cel50
  | 51 => cel51
  | 52 => cel52
  | 53 => cel53
  | 54 => cel54
  | 55 => cel55
  | 56 => cel56
  | 60 => cel60
  | 96 => cel96
  | 98 => cel98
  | 101 => cel101
  | 102 => cel102
  | 107 => cel107
  | 115 => cel115
  | 126 => cel126
  | 157 => cel157
  | 159 => cel159
  | 169 => cel169
  | _ => fun _ => []
def encT : (t : Nat) → τ t → TV τ
  | 2 => enc2
  | 3 => enc3
  | 4 => enc4
  | 5 => enc5
  | 9 => enc9
  | 12 => enc12
  | 21 => enc21
  | 22 => enc22
  | 23 => enc23
  | 24 => enc24
  | 25 => enc25
  | 26 => enc26
  | 27 => enc27
  | 28 => enc28
  | 29 => enc29
  | 30 => enc30
  | 31 => enc31
  | 32 => enc32
  | 33 => enc33
  | 34 => enc34
  | 40 => enc40
  | 41 => enc41
  | 42 => enc42
  | 43 => enc43
  | 44 => enc44
  | 45 => enc45
  | 46 => enc46
  | 47 => enc47
  | 48 => enc48
  | 49 => enc49
  | 50 => enc50
  | 51 => enc51
  | 52 => enc52
  | 53 => enc53
  | 54 => enc54
  | 55 => enc55
  | 56 => enc56
  | 60 => enc60
  | 96 => enc96
  | 98 => enc98
  | 101 => enc101
  | 102 => enc102
  | 107 => enc107
  | 115 => enc115
  | 126 => enc126
  | 157 => enc157
  | 159 => enc159
  | 169 => enc169
  | _ => fun _ => .agg []
def decT : (t : Nat) → TV τ → Option (τ t)
  | 2 => dec2
  | 3 => dec3
  | 4 => dec4
  | 5 => dec5
  | 9 => dec9
  | 12 => dec12
  | 21 => dec21
  | 22 => dec22
  | 23 => dec23
  | 24 => dec24
  | 25 => dec25
  | 26 => dec26
  | 27 => dec27
  | 28 => dec28
  | 29 => dec29
  | 30 => dec30
  | 31 => dec31
  | 32 => dec32
  | 33 => dec33
  | 34 => dec34
  | 40 => dec40
  | 41 => dec41
  | 42 => dec42
  | 43 => dec43
  | 44 => dec44
  | 45 => dec45
  | 46 => dec46
  | 47 => dec47
  | 48 => dec48
  | 49 => dec49
  | 50 => dec50
  | 51 => dec51
  | 52 => dec52
  | 53 => dec53
  | 54 => dec54
  | 55 => dec55
  | 56 => dec56
  | 60 => dec60
  | 96 => dec96
  | 98 => dec98
  | 101 => dec101
  | 102 => dec102
  | 107 => dec107
  | 115 => dec115
  | 126 => dec126
  | 157 => dec157
  | 159 => dec159
  | 169 => dec169
  | _ => fun _ => none
theorem dfN (t : Nat) : Nonempty (τ t) := by unfold τ; split <;> exact ⟨default⟩
noncomputable def dfX (t : Nat) : τ t := Classical.choice (dfN t)
noncomputable def dfT : (t : Nat) → τ t
  | 2 => (default : Int)
  | 3 => (default : Int)
  | 4 => (default : Bool)
  | 5 => (default : Int)
  | 9 => (default : List UInt8)
  | 12 => (default : Int)
  | 21 => (default : Int)
  | 22 => (default : Vector (Int) 8)
  | 23 => (default : Vector (Int) 8)
  | 24 => (default : Vector (Int) 8)
  | 25 => (default : GEpoch)
  | 26 => (default : GEpoch)
  | 27 => (default : List (GTreeNode))
  | 28 => (default : List (GOp))
  | 29 => (default : Vector (List (GOp)) 8)
  | 30 => (default : Vector (Vector (Int) 8) 8)
  | 31 => (default : List (GRow))
  | 32 => (default : List (GPart))
  | 33 => (default : GSnap)
  | 34 => (default : GSnap)
  | 40 => (default : GStamp)
  | 41 => (default : GStamp)
  | 42 => (default : GOp)
  | 43 => (default : GOp)
  | 44 => (default : GAddr)
  | 45 => (default : GAddr)
  | 46 => (default : GBallot)
  | 47 => (default : GBallot)
  | 48 => (default : List (GSlotted))
  | 49 => (default : List (Int))
  | 50 => (default : GPart)
  | 51 => (default : GPart)
  | 52 => (default : GEntry)
  | 53 => (default : GEntry)
  | 54 => (default : GMsg)
  | 55 => (default : GMsg)
  | 56 => (default : Int)
  | 60 => (default : List (Int))
  | 96 => (default : List (GAttr))
  | 98 => (default : GTreeNode)
  | 101 => (default : GSlotted)
  | 102 => (default : List (List UInt8))
  | 107 => (default : List (GAddr))
  | 115 => (default : List (Vector (Int) 8))
  | 126 => (default : List (Int))
  | 157 => (default : GReply)
  | 159 => (default : GRow)
  | 169 => (default : GAttr)
  | t => dfX t
def szT : Nat → Nat
  | 2 => 1
  | 3 => 1
  | 4 => 1
  | 5 => 1
  | 9 => 1
  | 12 => 1
  | 21 => 1
  | 22 => 8
  | 23 => 8
  | 24 => 8
  | 25 => 25
  | 26 => 25
  | 27 => 1
  | 28 => 1
  | 29 => 8
  | 30 => 64
  | 31 => 1
  | 32 => 1
  | 33 => 154
  | 34 => 154
  | 40 => 2
  | 41 => 2
  | 42 => 8
  | 43 => 8
  | 44 => 2
  | 45 => 2
  | 46 => 2
  | 47 => 2
  | 48 => 1
  | 49 => 1
  | 50 => 4
  | 51 => 4
  | 52 => 56
  | 53 => 56
  | 54 => 106
  | 55 => 106
  | 56 => 1
  | 60 => 1
  | 96 => 1
  | 98 => 4
  | 101 => 59
  | 102 => 1
  | 107 => 1
  | 115 => 1
  | 126 => 1
  | 157 => 4
  | 159 => 6
  | 169 => 2
  | _ => 0
def kdT : Nat → Option (List Kd)
  | 2 => some [.i]
  | 3 => some [.i]
  | 4 => some [.b]
  | 5 => some [.i]
  | 9 => some [.s]
  | 12 => some [.i]
  | 21 => some [.i]
  | 22 => some [.i, .i, .i, .i, .i, .i, .i, .i]
  | 23 => some [.i, .i, .i, .i, .i, .i, .i, .i]
  | 24 => some [.i, .i, .i, .i, .i, .i, .i, .i]
  | 25 => some [.i, .i, .i, .i, .i, .i, .i, .i, .i, .i, .i, .i, .i, .i, .i, .i, .i, .i, .i, .i, .i, .i, .i, .i, .i]
  | 26 => some [.i, .i, .i, .i, .i, .i, .i, .i, .i, .i, .i, .i, .i, .i, .i, .i, .i, .i, .i, .i, .i, .i, .i, .i, .i]
  | 30 => some [.i, .i, .i, .i, .i, .i, .i, .i, .i, .i, .i, .i, .i, .i, .i, .i, .i, .i, .i, .i, .i, .i, .i, .i, .i, .i, .i, .i, .i, .i, .i, .i, .i, .i, .i, .i, .i, .i, .i, .i, .i, .i, .i, .i, .i, .i, .i, .i, .i, .i, .i, .i, .i, .i, .i, .i, .i, .i, .i, .i, .i, .i, .i, .i]
  | 40 => some [.i, .i]
  | 41 => some [.i, .i]
  | 42 => some [.i, .i, .i, .i, .i, .s, .s, .s]
  | 43 => some [.i, .i, .i, .i, .i, .s, .s, .s]
  | 44 => some [.i, .i]
  | 45 => some [.i, .i]
  | 46 => some [.i, .i]
  | 47 => some [.i, .i]
  | 56 => some [.i]
  | 157 => some [.i, .i, .i, .i]
  | 159 => some [.i, .i, .i, .i, .i, .i]
  | 169 => some [.s, .s]
  | _ => none
def beqT : (t : Nat) → τ t → τ t → Bool
  | 2 => beq2
  | 3 => beq3
  | 4 => beq4
  | 5 => beq5
  | 9 => beq9
  | 12 => beq12
  | 21 => beq21
  | 22 => beq22
  | 23 => beq23
  | 24 => beq24
  | 25 => beq25
  | 26 => beq26
  | 30 => beq30
  | 40 => beq40
  | 41 => beq41
  | 42 => beq42
  | 43 => beq43
  | 44 => beq44
  | 45 => beq45
  | 46 => beq46
  | 47 => beq47
  | 56 => beq56
  | 157 => beq157
  | 159 => beq159
  | 169 => beq169
  | _ => fun _ _ => false
def b2sT : (t : Nat) → List (τ t) → Option (List UInt8)
  | 5 => fun (l : List Int) => some (strI l)
  | _ => fun _ => none
def s2bT : (t : Nat) → List UInt8 → Option (List (τ t))
  | 5 => fun s => some (bytesI s)
  | _ => fun _ => none
noncomputable def siteT : Nat → Nat → Array Tmp × Code × Code := fun f k => bif Nat.beq f 6 then siteFn Try.f6 k else bif Nat.beq f 7 then siteFn Try.f7 k else bif Nat.beq f 9 then siteFn Try.f9 k else bif Nat.beq f 17 then siteFn Try.f17 k else (#[], .skip, .skip)
noncomputable def C : Cod τ := ⟨celT, encT, decT, dfT, szT, kdT, beqT, b2sT, s2bT, siteT⟩
theorem law2 : CodAt C 2 := ⟨fun x => rfl, fun x => rfl, fun x a h => by rw [dInt_x (show dInt .i64 x = some a from h)]; exact .refl _, fun x => rfl, fun x a h => by rw [dInt_x (show dInt .i64 x = some a from h)]; rfl, fun x a h => by rw [dInt_x (show dInt .i64 x = some a from h)]; rfl, fun a => rfl, fun a => noids_one (NoId.v _), fun ks h a b => by cases h; simp [eqCells, scal, C, celT, cel2, beqT, beq2], (fun l s h => nomatch h), (fun s l h => nomatch h)⟩
theorem law3 : CodAt C 3 := ⟨fun x => rfl, fun x => rfl, fun x a h => by rw [dInt_x (show dInt .i64 x = some a from h)]; exact .refl _, fun x => rfl, fun x a h => by rw [dInt_x (show dInt .i64 x = some a from h)]; rfl, fun x a h => by rw [dInt_x (show dInt .i64 x = some a from h)]; rfl, fun a => rfl, fun a => noids_one (NoId.v _), fun ks h a b => by cases h; simp [eqCells, scal, C, celT, cel3, beqT, beq3], (fun l s h => nomatch h), (fun s l h => nomatch h)⟩
theorem law4 : CodAt C 4 := ⟨fun x => rfl, fun x => rfl, fun x a h => by rw [dBool_x (show dBool x = some a from h)]; exact .refl _, fun x => rfl, fun x a h => by rw [dBool_x (show dBool x = some a from h)]; rfl, fun x a h => by rw [dBool_x (show dBool x = some a from h)]; rfl, fun a => rfl, fun a => noids_one (NoId.v _), fun ks h a b => by cases h; simp [eqCells, scal, C, celT, cel4, beqT, beq4], (fun l s h => nomatch h), (fun s l h => nomatch h)⟩
theorem law5 : CodAt C 5 := ⟨fun x => rfl, fun x => rfl, fun x a h => by rw [dInt_x (show dInt .u8 x = some a from h)]; exact .refl _, fun x => rfl, fun x a h => by rw [dInt_x (show dInt .u8 x = some a from h)]; rfl, fun x a h => by rw [dInt_x (show dInt .u8 x = some a from h)]; rfl, fun a => rfl, fun a => noids_one (NoId.v _), fun ks h a b => by cases h; simp [eqCells, scal, C, celT, cel5, beqT, beq5], fun l s h => ⟨rfl, (unbytes_int l).trans h⟩, fun s l h => ⟨rfl, by cases h; show (bytesI s).map cel5 = _; simp [bytesI, cel5, byteCell]⟩⟩
theorem law9 : CodAt C 9 := ⟨fun x => rfl, fun x => rfl, fun x a h => by rw [dStr_x (show dStr x = some a from h)]; exact .refl _, fun x => rfl, fun x a h => by rw [dStr_x (show dStr x = some a from h)]; rfl, fun x a h => by rw [dStr_x (show dStr x = some a from h)]; rfl, fun a => rfl, fun a => noids_one (NoId.v _), fun ks h a b => by cases h; simp [eqCells, scal, C, celT, cel9, beqT, beq9], (fun l s h => nomatch h), (fun s l h => nomatch h)⟩
theorem law12 : CodAt C 12 := ⟨fun x => rfl, fun x => rfl, fun x a h => by rw [dInt_x (show dInt .u64 x = some a from h)]; exact .refl _, fun x => rfl, fun x a h => by rw [dInt_x (show dInt .u64 x = some a from h)]; rfl, fun x a h => by rw [dInt_x (show dInt .u64 x = some a from h)]; rfl, fun a => rfl, fun a => noids_one (NoId.v _), fun ks h a b => by cases h; simp [eqCells, scal, C, celT, cel12, beqT, beq12], (fun l s h => nomatch h), (fun s l h => nomatch h)⟩
theorem law21 : CodAt C 21 := ⟨fun x => rfl, fun x => rfl, fun x a h => by rw [dInt_x (show dInt .i32 x = some a from h)]; exact .refl _, fun x => rfl, fun x a h => by rw [dInt_x (show dInt .i32 x = some a from h)]; rfl, fun x a h => by rw [dInt_x (show dInt .i32 x = some a from h)]; rfl, fun a => rfl, fun a => noids_one (NoId.v _), fun ks h a b => by cases h; simp [eqCells, scal, C, celT, cel21, beqT, beq21], (fun l s h => nomatch h), (fun s l h => nomatch h)⟩
theorem law22 : CodAt C 22 := ⟨fun x => rfl, fun x => length_flat law3 x, fun x a h => by rw [dArr_x (show dArr 3 8 x = some a from h)]; exact .refl _, fun x => rfl, fun x a h => by rw [dArr_x (show dArr 3 8 x = some a from h)]; rfl, fun x a h => by rw [dArr_x (show dArr 3 8 x = some a from h)]; rfl, fun a => one_flat law3 a.toList, fun a => noid_flat law3 a.toList, fun ks h a b => by have := eqCells_arr' law3 (show C.kd 3 = some _ from rfl) a.toList b.toList (by simp); simp only [Vector.length_toList] at this; cases h; exact this, (fun l s h => nomatch h), (fun s l h => nomatch h)⟩
theorem law23 : CodAt C 23 := ⟨fun x => rfl, fun x => length_flat law2 x, fun x a h => by rw [dArr_x (show dArr 2 8 x = some a from h)]; exact .refl _, fun x => rfl, fun x a h => by rw [dArr_x (show dArr 2 8 x = some a from h)]; rfl, fun x a h => by rw [dArr_x (show dArr 2 8 x = some a from h)]; rfl, fun a => one_flat law2 a.toList, fun a => noid_flat law2 a.toList, fun ks h a b => by have := eqCells_arr' law2 (show C.kd 2 = some _ from rfl) a.toList b.toList (by simp); simp only [Vector.length_toList] at this; cases h; exact this, (fun l s h => nomatch h), (fun s l h => nomatch h)⟩
theorem law24 : CodAt C 24 := ⟨fun x => rfl, fun x => length_flat law2 x, fun x a h => by rw [dArr_x (show dArr 2 8 x = some a from h)]; exact .refl _, fun x => rfl, fun x a h => by rw [dArr_x (show dArr 2 8 x = some a from h)]; rfl, fun x a h => by rw [dArr_x (show dArr 2 8 x = some a from h)]; rfl, fun a => one_flat law2 a.toList, fun a => noid_flat law2 a.toList, fun ks h a b => by have := eqCells_arr' law2 (show C.kd 2 = some _ from rfl) a.toList b.toList (by simp); simp only [Vector.length_toList] at this; cases h; exact this, (fun l s h => nomatch h), (fun s l h => nomatch h)⟩
theorem decx25 {x : TV τ} {a : GEpoch} (h : dec25 x = some a) : ∃ x0 x1 x2 x3, x = .agg [x0, x1, x2, x3] ∧ dec2 x0 = some a.Number ∧ dec22 x1 = some a.States ∧ dec24 x2 = some a.Seals ∧ dec22 x3 = some a.Sponsor := by
  unfold dec25 at h
  split at h
  · rename_i x0 x1 x2 x3
    split at h
    · rename_i a0 h0
      split at h
      · rename_i a1 h1
        split at h
        · rename_i a2 h2
          split at h
          · rename_i a3 h3
            cases h
            exact ⟨_, _, _, _, rfl, h0, h1, h2, h3⟩
          · cases h
        · cases h
      · cases h
    · cases h
  · cases h
theorem law25 : CodAt C 25 := ⟨fun x => by show ((enc2 x.Number).cells C ++ ((enc22 x.States).cells C ++ ((enc24 x.Seals).cells C ++ ((enc22 x.Sponsor).cells C ++ [])))) = cel25 x; unfold cel25; exact congr (congrArg (· ++ ·) (law2.cel x.Number)) (congr (congrArg (· ++ ·) (law22.cel x.States)) (congr (congrArg (· ++ ·) (law24.cel x.Seals)) (congr (congrArg (· ++ ·) (law22.cel x.Sponsor)) (rfl)))), fun x => by show ((cel2 x.Number ++ (cel22 x.States ++ (cel24 x.Seals ++ (cel22 x.Sponsor ++ []))))).length = 25; rw [List.length_append, List.length_append, List.length_append, List.length_append]; have e0 : (cel2 x.Number).length = 1 := law2.len x.Number; have e1 : (cel22 x.States).length = 8 := law22.len x.States; have e2 : (cel24 x.Seals).length = 8 := law24.len x.Seals; have e3 : (cel22 x.Sponsor).length = 8 := law22.len x.Sponsor; simp only [e0, e1, e2, e3, List.length_nil], fun x a h => by obtain ⟨x0, x1, x2, x3, rfl, h0, h1, h2, h3⟩ := decx25 (show dec25 x = some a from h); exact CW.append (law2.dec _ _ h0) (CW.append (law22.dec _ _ h1) (CW.append (law24.dec _ _ h2) (CW.append (law22.dec _ _ h3) (CW.refl [])))), fun x => by show (((enc2 x.Number).ok && ((enc22 x.States).ok && ((enc24 x.Seals).ok && ((enc22 x.Sponsor).ok && true))))) = true; simp only [show (enc2 x.Number).ok = true from law2.ok _, show (enc22 x.States).ok = true from law22.ok _, show (enc24 x.Seals).ok = true from law24.ok _, show (enc22 x.Sponsor).ok = true from law22.ok _, Bool.and_self], fun x a h => by obtain ⟨x0, x1, x2, x3, rfl, h0, h1, h2, h3⟩ := decx25 (show dec25 x = some a from h); show ((x0.ok && (x1.ok && (x2.ok && (x3.ok && true))))) = true; simp only [law2.decok _ _ h0, law22.decok _ _ h1, law24.decok _ _ h2, law22.decok _ _ h3, Bool.and_self], fun x a h => by obtain ⟨x0, x1, x2, x3, rfl, h0, h1, h2, h3⟩ := decx25 (show dec25 x = some a from h); rfl, fun x => by show ((cel2 x.Number ++ (cel22 x.States ++ (cel24 x.Seals ++ (cel22 x.Sponsor ++ []))))).all AV.one = true; simp only [List.all_append, List.all_nil, show (cel2 x.Number).all AV.one = true from law2.one _, show (cel22 x.States).all AV.one = true from law22.one _, show (cel24 x.Seals).all AV.one = true from law24.one _, show (cel22 x.Sponsor).all AV.one = true from law22.one _, Bool.and_self], fun x => noids_app (law2.noid x.Number) (noids_app (law22.noid x.States) (noids_app (law24.noid x.Seals) (noids_app (law22.noid x.Sponsor) (trivial)))), fun ks h a b => by have := eqCells_append (law2.kd _ rfl a.Number b.Number) (eqCells_append (law22.kd _ rfl a.States b.States) (eqCells_append (law24.kd _ rfl a.Seals b.Seals) (eqCells_append (law22.kd _ rfl a.Sponsor b.Sponsor) ((show eqCells [] [] [] = some true from rfl))))); cases h; exact this, (fun l s h => nomatch h), (fun s l h => nomatch h)⟩
theorem decx26 {x : TV τ} {a : GEpoch} (h : dec26 x = some a) : ∃ x0 x1 x2 x3, x = .agg [x0, x1, x2, x3] ∧ dec2 x0 = some a.Number ∧ dec22 x1 = some a.States ∧ dec24 x2 = some a.Seals ∧ dec22 x3 = some a.Sponsor := by
  unfold dec26 at h
  split at h
  · rename_i x0 x1 x2 x3
    split at h
    · rename_i a0 h0
      split at h
      · rename_i a1 h1
        split at h
        · rename_i a2 h2
          split at h
          · rename_i a3 h3
            cases h
            exact ⟨_, _, _, _, rfl, h0, h1, h2, h3⟩
          · cases h
        · cases h
      · cases h
    · cases h
  · cases h
theorem law26 : CodAt C 26 := ⟨fun x => by show ((enc2 x.Number).cells C ++ ((enc22 x.States).cells C ++ ((enc24 x.Seals).cells C ++ ((enc22 x.Sponsor).cells C ++ [])))) = cel26 x; unfold cel26; exact congr (congrArg (· ++ ·) (law2.cel x.Number)) (congr (congrArg (· ++ ·) (law22.cel x.States)) (congr (congrArg (· ++ ·) (law24.cel x.Seals)) (congr (congrArg (· ++ ·) (law22.cel x.Sponsor)) (rfl)))), fun x => by show ((cel2 x.Number ++ (cel22 x.States ++ (cel24 x.Seals ++ (cel22 x.Sponsor ++ []))))).length = 25; rw [List.length_append, List.length_append, List.length_append, List.length_append]; have e0 : (cel2 x.Number).length = 1 := law2.len x.Number; have e1 : (cel22 x.States).length = 8 := law22.len x.States; have e2 : (cel24 x.Seals).length = 8 := law24.len x.Seals; have e3 : (cel22 x.Sponsor).length = 8 := law22.len x.Sponsor; simp only [e0, e1, e2, e3, List.length_nil], fun x a h => by obtain ⟨x0, x1, x2, x3, rfl, h0, h1, h2, h3⟩ := decx26 (show dec26 x = some a from h); exact CW.append (law2.dec _ _ h0) (CW.append (law22.dec _ _ h1) (CW.append (law24.dec _ _ h2) (CW.append (law22.dec _ _ h3) (CW.refl [])))), fun x => by show (((enc2 x.Number).ok && ((enc22 x.States).ok && ((enc24 x.Seals).ok && ((enc22 x.Sponsor).ok && true))))) = true; simp only [show (enc2 x.Number).ok = true from law2.ok _, show (enc22 x.States).ok = true from law22.ok _, show (enc24 x.Seals).ok = true from law24.ok _, show (enc22 x.Sponsor).ok = true from law22.ok _, Bool.and_self], fun x a h => by obtain ⟨x0, x1, x2, x3, rfl, h0, h1, h2, h3⟩ := decx26 (show dec26 x = some a from h); show ((x0.ok && (x1.ok && (x2.ok && (x3.ok && true))))) = true; simp only [law2.decok _ _ h0, law22.decok _ _ h1, law24.decok _ _ h2, law22.decok _ _ h3, Bool.and_self], fun x a h => by obtain ⟨x0, x1, x2, x3, rfl, h0, h1, h2, h3⟩ := decx26 (show dec26 x = some a from h); rfl, fun x => by show ((cel2 x.Number ++ (cel22 x.States ++ (cel24 x.Seals ++ (cel22 x.Sponsor ++ []))))).all AV.one = true; simp only [List.all_append, List.all_nil, show (cel2 x.Number).all AV.one = true from law2.one _, show (cel22 x.States).all AV.one = true from law22.one _, show (cel24 x.Seals).all AV.one = true from law24.one _, show (cel22 x.Sponsor).all AV.one = true from law22.one _, Bool.and_self], fun x => noids_app (law2.noid x.Number) (noids_app (law22.noid x.States) (noids_app (law24.noid x.Seals) (noids_app (law22.noid x.Sponsor) (trivial)))), fun ks h a b => by have := eqCells_append (law2.kd _ rfl a.Number b.Number) (eqCells_append (law22.kd _ rfl a.States b.States) (eqCells_append (law24.kd _ rfl a.Seals b.Seals) (eqCells_append (law22.kd _ rfl a.Sponsor b.Sponsor) ((show eqCells [] [] [] = some true from rfl))))); cases h; exact this, (fun l s h => nomatch h), (fun s l h => nomatch h)⟩
theorem decx169 {x : TV τ} {a : GAttr} (h : dec169 x = some a) : ∃ x0 x1, x = .agg [x0, x1] ∧ dec9 x0 = some a.Key ∧ dec9 x1 = some a.Value := by
  unfold dec169 at h
  split at h
  · rename_i x0 x1
    split at h
    · rename_i a0 h0
      split at h
      · rename_i a1 h1
        cases h
        exact ⟨_, _, rfl, h0, h1⟩
      · cases h
    · cases h
  · cases h
theorem law169 : CodAt C 169 := ⟨fun x => by show ((enc9 x.Key).cells C ++ ((enc9 x.Value).cells C ++ [])) = cel169 x; unfold cel169; exact congr (congrArg (· ++ ·) (law9.cel x.Key)) (congr (congrArg (· ++ ·) (law9.cel x.Value)) (rfl)), fun x => by show ((cel9 x.Key ++ (cel9 x.Value ++ []))).length = 2; rw [List.length_append, List.length_append]; have e0 : (cel9 x.Key).length = 1 := law9.len x.Key; have e1 : (cel9 x.Value).length = 1 := law9.len x.Value; simp only [e0, e1, List.length_nil], fun x a h => by obtain ⟨x0, x1, rfl, h0, h1⟩ := decx169 (show dec169 x = some a from h); exact CW.append (law9.dec _ _ h0) (CW.append (law9.dec _ _ h1) (CW.refl [])), fun x => by show (((enc9 x.Key).ok && ((enc9 x.Value).ok && true))) = true; simp only [show (enc9 x.Key).ok = true from law9.ok _, show (enc9 x.Value).ok = true from law9.ok _, Bool.and_self], fun x a h => by obtain ⟨x0, x1, rfl, h0, h1⟩ := decx169 (show dec169 x = some a from h); show ((x0.ok && (x1.ok && true))) = true; simp only [law9.decok _ _ h0, law9.decok _ _ h1, Bool.and_self], fun x a h => by obtain ⟨x0, x1, rfl, h0, h1⟩ := decx169 (show dec169 x = some a from h); rfl, fun x => by show ((cel9 x.Key ++ (cel9 x.Value ++ []))).all AV.one = true; simp only [List.all_append, List.all_nil, show (cel9 x.Key).all AV.one = true from law9.one _, show (cel9 x.Value).all AV.one = true from law9.one _, Bool.and_self], fun x => noids_app (law9.noid x.Key) (noids_app (law9.noid x.Value) (trivial)), fun ks h a b => by have := eqCells_append (law9.kd _ rfl a.Key b.Key) (eqCells_append (law9.kd _ rfl a.Value b.Value) ((show eqCells [] [] [] = some true from rfl))); cases h; exact this, (fun l s h => nomatch h), (fun s l h => nomatch h)⟩
theorem law96 : CodAt C 96 := ⟨fun x => rfl, fun x => rfl, fun x a h => (dSl_cw (C := C) (show dSl 169 x = some a from h)).1, fun x => rfl, fun x a h => (dSl_cw (C := C) (show dSl 169 x = some a from h)).2.1, fun x a h => (dSl_cw (C := C) (show dSl 169 x = some a from h)).2.2, fun a => rfl, fun a => noids_one (NoId.asl fun cs hc => by obtain ⟨y, _, rfl⟩ := List.mem_map.1 hc; exact law169.noid y), (fun ks h => nomatch h), (fun l s h => nomatch h), (fun s l h => nomatch h)⟩
theorem decx98 {x : TV τ} {a : GTreeNode} (h : dec98 x = some a) : ∃ x0 x1 x2 x3, x = .agg [x0, x1, x2, x3] ∧ dec2 x0 = some a.Node ∧ dec2 x1 = some a.Parent ∧ dec9 x2 = some a.Name ∧ dec96 x3 = some a.Attrs := by
  unfold dec98 at h
  split at h
  · rename_i x0 x1 x2 x3
    split at h
    · rename_i a0 h0
      split at h
      · rename_i a1 h1
        split at h
        · rename_i a2 h2
          split at h
          · rename_i a3 h3
            cases h
            exact ⟨_, _, _, _, rfl, h0, h1, h2, h3⟩
          · cases h
        · cases h
      · cases h
    · cases h
  · cases h
theorem law98 : CodAt C 98 := ⟨fun x => by show ((enc2 x.Node).cells C ++ ((enc2 x.Parent).cells C ++ ((enc9 x.Name).cells C ++ ((enc96 x.Attrs).cells C ++ [])))) = cel98 x; unfold cel98; exact congr (congrArg (· ++ ·) (law2.cel x.Node)) (congr (congrArg (· ++ ·) (law2.cel x.Parent)) (congr (congrArg (· ++ ·) (law9.cel x.Name)) (congr (congrArg (· ++ ·) (law96.cel x.Attrs)) (rfl)))), fun x => by show ((cel2 x.Node ++ (cel2 x.Parent ++ (cel9 x.Name ++ (cel96 x.Attrs ++ []))))).length = 4; rw [List.length_append, List.length_append, List.length_append, List.length_append]; have e0 : (cel2 x.Node).length = 1 := law2.len x.Node; have e1 : (cel2 x.Parent).length = 1 := law2.len x.Parent; have e2 : (cel9 x.Name).length = 1 := law9.len x.Name; have e3 : (cel96 x.Attrs).length = 1 := law96.len x.Attrs; simp only [e0, e1, e2, e3, List.length_nil], fun x a h => by obtain ⟨x0, x1, x2, x3, rfl, h0, h1, h2, h3⟩ := decx98 (show dec98 x = some a from h); exact CW.append (law2.dec _ _ h0) (CW.append (law2.dec _ _ h1) (CW.append (law9.dec _ _ h2) (CW.append (law96.dec _ _ h3) (CW.refl [])))), fun x => by show (((enc2 x.Node).ok && ((enc2 x.Parent).ok && ((enc9 x.Name).ok && ((enc96 x.Attrs).ok && true))))) = true; simp only [show (enc2 x.Node).ok = true from law2.ok _, show (enc2 x.Parent).ok = true from law2.ok _, show (enc9 x.Name).ok = true from law9.ok _, show (enc96 x.Attrs).ok = true from law96.ok _, Bool.and_self], fun x a h => by obtain ⟨x0, x1, x2, x3, rfl, h0, h1, h2, h3⟩ := decx98 (show dec98 x = some a from h); show ((x0.ok && (x1.ok && (x2.ok && (x3.ok && true))))) = true; simp only [law2.decok _ _ h0, law2.decok _ _ h1, law9.decok _ _ h2, law96.decok _ _ h3, Bool.and_self], fun x a h => by obtain ⟨x0, x1, x2, x3, rfl, h0, h1, h2, h3⟩ := decx98 (show dec98 x = some a from h); rfl, fun x => by show ((cel2 x.Node ++ (cel2 x.Parent ++ (cel9 x.Name ++ (cel96 x.Attrs ++ []))))).all AV.one = true; simp only [List.all_append, List.all_nil, show (cel2 x.Node).all AV.one = true from law2.one _, show (cel2 x.Parent).all AV.one = true from law2.one _, show (cel9 x.Name).all AV.one = true from law9.one _, show (cel96 x.Attrs).all AV.one = true from law96.one _, Bool.and_self], fun x => noids_app (law2.noid x.Node) (noids_app (law2.noid x.Parent) (noids_app (law9.noid x.Name) (noids_app (law96.noid x.Attrs) (trivial)))), (fun ks h => nomatch h), (fun l s h => nomatch h), (fun s l h => nomatch h)⟩
theorem law27 : CodAt C 27 := ⟨fun x => rfl, fun x => rfl, fun x a h => (dSl_cw (C := C) (show dSl 98 x = some a from h)).1, fun x => rfl, fun x a h => (dSl_cw (C := C) (show dSl 98 x = some a from h)).2.1, fun x a h => (dSl_cw (C := C) (show dSl 98 x = some a from h)).2.2, fun a => rfl, fun a => noids_one (NoId.asl fun cs hc => by obtain ⟨y, _, rfl⟩ := List.mem_map.1 hc; exact law98.noid y), (fun ks h => nomatch h), (fun l s h => nomatch h), (fun s l h => nomatch h)⟩
theorem decx41 {x : TV τ} {a : GStamp} (h : dec41 x = some a) : ∃ x0 x1, x = .agg [x0, x1] ∧ dec2 x0 = some a.Time ∧ dec3 x1 = some a.Site := by
  unfold dec41 at h
  split at h
  · rename_i x0 x1
    split at h
    · rename_i a0 h0
      split at h
      · rename_i a1 h1
        cases h
        exact ⟨_, _, rfl, h0, h1⟩
      · cases h
    · cases h
  · cases h
theorem law41 : CodAt C 41 := ⟨fun x => by show ((enc2 x.Time).cells C ++ ((enc3 x.Site).cells C ++ [])) = cel41 x; unfold cel41; exact congr (congrArg (· ++ ·) (law2.cel x.Time)) (congr (congrArg (· ++ ·) (law3.cel x.Site)) (rfl)), fun x => by show ((cel2 x.Time ++ (cel3 x.Site ++ []))).length = 2; rw [List.length_append, List.length_append]; have e0 : (cel2 x.Time).length = 1 := law2.len x.Time; have e1 : (cel3 x.Site).length = 1 := law3.len x.Site; simp only [e0, e1, List.length_nil], fun x a h => by obtain ⟨x0, x1, rfl, h0, h1⟩ := decx41 (show dec41 x = some a from h); exact CW.append (law2.dec _ _ h0) (CW.append (law3.dec _ _ h1) (CW.refl [])), fun x => by show (((enc2 x.Time).ok && ((enc3 x.Site).ok && true))) = true; simp only [show (enc2 x.Time).ok = true from law2.ok _, show (enc3 x.Site).ok = true from law3.ok _, Bool.and_self], fun x a h => by obtain ⟨x0, x1, rfl, h0, h1⟩ := decx41 (show dec41 x = some a from h); show ((x0.ok && (x1.ok && true))) = true; simp only [law2.decok _ _ h0, law3.decok _ _ h1, Bool.and_self], fun x a h => by obtain ⟨x0, x1, rfl, h0, h1⟩ := decx41 (show dec41 x = some a from h); rfl, fun x => by show ((cel2 x.Time ++ (cel3 x.Site ++ []))).all AV.one = true; simp only [List.all_append, List.all_nil, show (cel2 x.Time).all AV.one = true from law2.one _, show (cel3 x.Site).all AV.one = true from law3.one _, Bool.and_self], fun x => noids_app (law2.noid x.Time) (noids_app (law3.noid x.Site) (trivial)), fun ks h a b => by have := eqCells_append (law2.kd _ rfl a.Time b.Time) (eqCells_append (law3.kd _ rfl a.Site b.Site) ((show eqCells [] [] [] = some true from rfl))); cases h; exact this, (fun l s h => nomatch h), (fun s l h => nomatch h)⟩
theorem decx43 {x : TV τ} {a : GOp} (h : dec43 x = some a) : ∃ x0 x1 x2 x3 x4 x5 x6, x = .agg [x0, x1, x2, x3, x4, x5, x6] ∧ dec41 x0 = some a.Stamp ∧ dec3 x1 = some a.Kind ∧ dec2 x2 = some a.Node ∧ dec2 x3 = some a.Parent ∧ dec9 x4 = some a.Name ∧ dec9 x5 = some a.Key ∧ dec9 x6 = some a.Value := by
  unfold dec43 at h
  split at h
  · rename_i x0 x1 x2 x3 x4 x5 x6
    split at h
    · rename_i a0 h0
      split at h
      · rename_i a1 h1
        split at h
        · rename_i a2 h2
          split at h
          · rename_i a3 h3
            split at h
            · rename_i a4 h4
              split at h
              · rename_i a5 h5
                split at h
                · rename_i a6 h6
                  cases h
                  exact ⟨_, _, _, _, _, _, _, rfl, h0, h1, h2, h3, h4, h5, h6⟩
                · cases h
              · cases h
            · cases h
          · cases h
        · cases h
      · cases h
    · cases h
  · cases h
theorem law43 : CodAt C 43 := ⟨fun x => by show ((enc41 x.Stamp).cells C ++ ((enc3 x.Kind).cells C ++ ((enc2 x.Node).cells C ++ ((enc2 x.Parent).cells C ++ ((enc9 x.Name).cells C ++ ((enc9 x.Key).cells C ++ ((enc9 x.Value).cells C ++ []))))))) = cel43 x; unfold cel43; exact congr (congrArg (· ++ ·) (law41.cel x.Stamp)) (congr (congrArg (· ++ ·) (law3.cel x.Kind)) (congr (congrArg (· ++ ·) (law2.cel x.Node)) (congr (congrArg (· ++ ·) (law2.cel x.Parent)) (congr (congrArg (· ++ ·) (law9.cel x.Name)) (congr (congrArg (· ++ ·) (law9.cel x.Key)) (congr (congrArg (· ++ ·) (law9.cel x.Value)) (rfl))))))), fun x => by show ((cel41 x.Stamp ++ (cel3 x.Kind ++ (cel2 x.Node ++ (cel2 x.Parent ++ (cel9 x.Name ++ (cel9 x.Key ++ (cel9 x.Value ++ [])))))))).length = 8; rw [List.length_append, List.length_append, List.length_append, List.length_append, List.length_append, List.length_append, List.length_append]; have e0 : (cel41 x.Stamp).length = 2 := law41.len x.Stamp; have e1 : (cel3 x.Kind).length = 1 := law3.len x.Kind; have e2 : (cel2 x.Node).length = 1 := law2.len x.Node; have e3 : (cel2 x.Parent).length = 1 := law2.len x.Parent; have e4 : (cel9 x.Name).length = 1 := law9.len x.Name; have e5 : (cel9 x.Key).length = 1 := law9.len x.Key; have e6 : (cel9 x.Value).length = 1 := law9.len x.Value; simp only [e0, e1, e2, e3, e4, e5, e6, List.length_nil], fun x a h => by obtain ⟨x0, x1, x2, x3, x4, x5, x6, rfl, h0, h1, h2, h3, h4, h5, h6⟩ := decx43 (show dec43 x = some a from h); exact CW.append (law41.dec _ _ h0) (CW.append (law3.dec _ _ h1) (CW.append (law2.dec _ _ h2) (CW.append (law2.dec _ _ h3) (CW.append (law9.dec _ _ h4) (CW.append (law9.dec _ _ h5) (CW.append (law9.dec _ _ h6) (CW.refl []))))))), fun x => by show (((enc41 x.Stamp).ok && ((enc3 x.Kind).ok && ((enc2 x.Node).ok && ((enc2 x.Parent).ok && ((enc9 x.Name).ok && ((enc9 x.Key).ok && ((enc9 x.Value).ok && true)))))))) = true; simp only [show (enc41 x.Stamp).ok = true from law41.ok _, show (enc3 x.Kind).ok = true from law3.ok _, show (enc2 x.Node).ok = true from law2.ok _, show (enc2 x.Parent).ok = true from law2.ok _, show (enc9 x.Name).ok = true from law9.ok _, show (enc9 x.Key).ok = true from law9.ok _, show (enc9 x.Value).ok = true from law9.ok _, Bool.and_self], fun x a h => by obtain ⟨x0, x1, x2, x3, x4, x5, x6, rfl, h0, h1, h2, h3, h4, h5, h6⟩ := decx43 (show dec43 x = some a from h); show ((x0.ok && (x1.ok && (x2.ok && (x3.ok && (x4.ok && (x5.ok && (x6.ok && true)))))))) = true; simp only [law41.decok _ _ h0, law3.decok _ _ h1, law2.decok _ _ h2, law2.decok _ _ h3, law9.decok _ _ h4, law9.decok _ _ h5, law9.decok _ _ h6, Bool.and_self], fun x a h => by obtain ⟨x0, x1, x2, x3, x4, x5, x6, rfl, h0, h1, h2, h3, h4, h5, h6⟩ := decx43 (show dec43 x = some a from h); rfl, fun x => by show ((cel41 x.Stamp ++ (cel3 x.Kind ++ (cel2 x.Node ++ (cel2 x.Parent ++ (cel9 x.Name ++ (cel9 x.Key ++ (cel9 x.Value ++ [])))))))).all AV.one = true; simp only [List.all_append, List.all_nil, show (cel41 x.Stamp).all AV.one = true from law41.one _, show (cel3 x.Kind).all AV.one = true from law3.one _, show (cel2 x.Node).all AV.one = true from law2.one _, show (cel2 x.Parent).all AV.one = true from law2.one _, show (cel9 x.Name).all AV.one = true from law9.one _, show (cel9 x.Key).all AV.one = true from law9.one _, show (cel9 x.Value).all AV.one = true from law9.one _, Bool.and_self], fun x => noids_app (law41.noid x.Stamp) (noids_app (law3.noid x.Kind) (noids_app (law2.noid x.Node) (noids_app (law2.noid x.Parent) (noids_app (law9.noid x.Name) (noids_app (law9.noid x.Key) (noids_app (law9.noid x.Value) (trivial))))))), fun ks h a b => by have := eqCells_append (law41.kd _ rfl a.Stamp b.Stamp) (eqCells_append (law3.kd _ rfl a.Kind b.Kind) (eqCells_append (law2.kd _ rfl a.Node b.Node) (eqCells_append (law2.kd _ rfl a.Parent b.Parent) (eqCells_append (law9.kd _ rfl a.Name b.Name) (eqCells_append (law9.kd _ rfl a.Key b.Key) (eqCells_append (law9.kd _ rfl a.Value b.Value) ((show eqCells [] [] [] = some true from rfl)))))))); cases h; exact this, (fun l s h => nomatch h), (fun s l h => nomatch h)⟩
theorem law28 : CodAt C 28 := ⟨fun x => rfl, fun x => rfl, fun x a h => (dSl_cw (C := C) (show dSl 43 x = some a from h)).1, fun x => rfl, fun x a h => (dSl_cw (C := C) (show dSl 43 x = some a from h)).2.1, fun x a h => (dSl_cw (C := C) (show dSl 43 x = some a from h)).2.2, fun a => rfl, fun a => noids_one (NoId.asl fun cs hc => by obtain ⟨y, _, rfl⟩ := List.mem_map.1 hc; exact law43.noid y), (fun ks h => nomatch h), (fun l s h => nomatch h), (fun s l h => nomatch h)⟩
theorem law29 : CodAt C 29 := ⟨fun x => rfl, fun x => length_flat law28 x, fun x a h => by rw [dArr_x (show dArr 28 8 x = some a from h)]; exact .refl _, fun x => rfl, fun x a h => by rw [dArr_x (show dArr 28 8 x = some a from h)]; rfl, fun x a h => by rw [dArr_x (show dArr 28 8 x = some a from h)]; rfl, fun a => one_flat law28 a.toList, fun a => noid_flat law28 a.toList, (fun ks h => nomatch h), (fun l s h => nomatch h), (fun s l h => nomatch h)⟩
theorem law30 : CodAt C 30 := ⟨fun x => rfl, fun x => length_flat law24 x, fun x a h => by rw [dArr_x (show dArr 24 8 x = some a from h)]; exact .refl _, fun x => rfl, fun x a h => by rw [dArr_x (show dArr 24 8 x = some a from h)]; rfl, fun x a h => by rw [dArr_x (show dArr 24 8 x = some a from h)]; rfl, fun a => one_flat law24 a.toList, fun a => noid_flat law24 a.toList, fun ks h a b => by have := eqCells_arr' law24 (show C.kd 24 = some _ from rfl) a.toList b.toList (by simp); simp only [Vector.length_toList] at this; cases h; exact this, (fun l s h => nomatch h), (fun s l h => nomatch h)⟩
theorem law56 : CodAt C 56 := ⟨fun x => rfl, fun x => rfl, fun x a h => by rw [dInt_x (show dInt .i64 x = some a from h)]; exact .refl _, fun x => rfl, fun x a h => by rw [dInt_x (show dInt .i64 x = some a from h)]; rfl, fun x a h => by rw [dInt_x (show dInt .i64 x = some a from h)]; rfl, fun a => rfl, fun a => noids_one (NoId.v _), fun ks h a b => by cases h; simp [eqCells, scal, C, celT, cel56, beqT, beq56], (fun l s h => nomatch h), (fun s l h => nomatch h)⟩
theorem decx157 {x : TV τ} {a : GReply} (h : dec157 x = some a) : ∃ x0 x1 x2, x = .agg [x0, x1, x2] ∧ dec56 x0 = some a.Err ∧ dec41 x1 = some a.Stamp ∧ dec2 x2 = some a.Node := by
  unfold dec157 at h
  split at h
  · rename_i x0 x1 x2
    split at h
    · rename_i a0 h0
      split at h
      · rename_i a1 h1
        split at h
        · rename_i a2 h2
          cases h
          exact ⟨_, _, _, rfl, h0, h1, h2⟩
        · cases h
      · cases h
    · cases h
  · cases h
theorem law157 : CodAt C 157 := ⟨fun x => by show ((enc56 x.Err).cells C ++ ((enc41 x.Stamp).cells C ++ ((enc2 x.Node).cells C ++ []))) = cel157 x; unfold cel157; exact congr (congrArg (· ++ ·) (law56.cel x.Err)) (congr (congrArg (· ++ ·) (law41.cel x.Stamp)) (congr (congrArg (· ++ ·) (law2.cel x.Node)) (rfl))), fun x => by show ((cel56 x.Err ++ (cel41 x.Stamp ++ (cel2 x.Node ++ [])))).length = 4; rw [List.length_append, List.length_append, List.length_append]; have e0 : (cel56 x.Err).length = 1 := law56.len x.Err; have e1 : (cel41 x.Stamp).length = 2 := law41.len x.Stamp; have e2 : (cel2 x.Node).length = 1 := law2.len x.Node; simp only [e0, e1, e2, List.length_nil], fun x a h => by obtain ⟨x0, x1, x2, rfl, h0, h1, h2⟩ := decx157 (show dec157 x = some a from h); exact CW.append (law56.dec _ _ h0) (CW.append (law41.dec _ _ h1) (CW.append (law2.dec _ _ h2) (CW.refl []))), fun x => by show (((enc56 x.Err).ok && ((enc41 x.Stamp).ok && ((enc2 x.Node).ok && true)))) = true; simp only [show (enc56 x.Err).ok = true from law56.ok _, show (enc41 x.Stamp).ok = true from law41.ok _, show (enc2 x.Node).ok = true from law2.ok _, Bool.and_self], fun x a h => by obtain ⟨x0, x1, x2, rfl, h0, h1, h2⟩ := decx157 (show dec157 x = some a from h); show ((x0.ok && (x1.ok && (x2.ok && true)))) = true; simp only [law56.decok _ _ h0, law41.decok _ _ h1, law2.decok _ _ h2, Bool.and_self], fun x a h => by obtain ⟨x0, x1, x2, rfl, h0, h1, h2⟩ := decx157 (show dec157 x = some a from h); rfl, fun x => by show ((cel56 x.Err ++ (cel41 x.Stamp ++ (cel2 x.Node ++ [])))).all AV.one = true; simp only [List.all_append, List.all_nil, show (cel56 x.Err).all AV.one = true from law56.one _, show (cel41 x.Stamp).all AV.one = true from law41.one _, show (cel2 x.Node).all AV.one = true from law2.one _, Bool.and_self], fun x => noids_app (law56.noid x.Err) (noids_app (law41.noid x.Stamp) (noids_app (law2.noid x.Node) (trivial))), fun ks h a b => by have := eqCells_append (law56.kd _ rfl a.Err b.Err) (eqCells_append (law41.kd _ rfl a.Stamp b.Stamp) (eqCells_append (law2.kd _ rfl a.Node b.Node) ((show eqCells [] [] [] = some true from rfl)))); cases h; exact this, (fun l s h => nomatch h), (fun s l h => nomatch h)⟩
theorem decx159 {x : TV τ} {a : GRow} (h : dec159 x = some a) : ∃ x0 x1 x2, x = .agg [x0, x1, x2] ∧ dec2 x0 = some a.Session ∧ dec2 x1 = some a.Request ∧ dec157 x2 = some a.Reply := by
  unfold dec159 at h
  split at h
  · rename_i x0 x1 x2
    split at h
    · rename_i a0 h0
      split at h
      · rename_i a1 h1
        split at h
        · rename_i a2 h2
          cases h
          exact ⟨_, _, _, rfl, h0, h1, h2⟩
        · cases h
      · cases h
    · cases h
  · cases h
theorem law159 : CodAt C 159 := ⟨fun x => by show ((enc2 x.Session).cells C ++ ((enc2 x.Request).cells C ++ ((enc157 x.Reply).cells C ++ []))) = cel159 x; unfold cel159; exact congr (congrArg (· ++ ·) (law2.cel x.Session)) (congr (congrArg (· ++ ·) (law2.cel x.Request)) (congr (congrArg (· ++ ·) (law157.cel x.Reply)) (rfl))), fun x => by show ((cel2 x.Session ++ (cel2 x.Request ++ (cel157 x.Reply ++ [])))).length = 6; rw [List.length_append, List.length_append, List.length_append]; have e0 : (cel2 x.Session).length = 1 := law2.len x.Session; have e1 : (cel2 x.Request).length = 1 := law2.len x.Request; have e2 : (cel157 x.Reply).length = 4 := law157.len x.Reply; simp only [e0, e1, e2, List.length_nil], fun x a h => by obtain ⟨x0, x1, x2, rfl, h0, h1, h2⟩ := decx159 (show dec159 x = some a from h); exact CW.append (law2.dec _ _ h0) (CW.append (law2.dec _ _ h1) (CW.append (law157.dec _ _ h2) (CW.refl []))), fun x => by show (((enc2 x.Session).ok && ((enc2 x.Request).ok && ((enc157 x.Reply).ok && true)))) = true; simp only [show (enc2 x.Session).ok = true from law2.ok _, show (enc2 x.Request).ok = true from law2.ok _, show (enc157 x.Reply).ok = true from law157.ok _, Bool.and_self], fun x a h => by obtain ⟨x0, x1, x2, rfl, h0, h1, h2⟩ := decx159 (show dec159 x = some a from h); show ((x0.ok && (x1.ok && (x2.ok && true)))) = true; simp only [law2.decok _ _ h0, law2.decok _ _ h1, law157.decok _ _ h2, Bool.and_self], fun x a h => by obtain ⟨x0, x1, x2, rfl, h0, h1, h2⟩ := decx159 (show dec159 x = some a from h); rfl, fun x => by show ((cel2 x.Session ++ (cel2 x.Request ++ (cel157 x.Reply ++ [])))).all AV.one = true; simp only [List.all_append, List.all_nil, show (cel2 x.Session).all AV.one = true from law2.one _, show (cel2 x.Request).all AV.one = true from law2.one _, show (cel157 x.Reply).all AV.one = true from law157.one _, Bool.and_self], fun x => noids_app (law2.noid x.Session) (noids_app (law2.noid x.Request) (noids_app (law157.noid x.Reply) (trivial))), fun ks h a b => by have := eqCells_append (law2.kd _ rfl a.Session b.Session) (eqCells_append (law2.kd _ rfl a.Request b.Request) (eqCells_append (law157.kd _ rfl a.Reply b.Reply) ((show eqCells [] [] [] = some true from rfl)))); cases h; exact this, (fun l s h => nomatch h), (fun s l h => nomatch h)⟩
theorem law31 : CodAt C 31 := ⟨fun x => rfl, fun x => rfl, fun x a h => (dSl_cw (C := C) (show dSl 159 x = some a from h)).1, fun x => rfl, fun x a h => (dSl_cw (C := C) (show dSl 159 x = some a from h)).2.1, fun x a h => (dSl_cw (C := C) (show dSl 159 x = some a from h)).2.2, fun a => rfl, fun a => noids_one (NoId.asl fun cs hc => by obtain ⟨y, _, rfl⟩ := List.mem_map.1 hc; exact law159.noid y), (fun ks h => nomatch h), (fun l s h => nomatch h), (fun s l h => nomatch h)⟩
theorem law49 : CodAt C 49 := ⟨fun x => rfl, fun x => rfl, fun x a h => (dSl_cw (C := C) (show dSl 5 x = some a from h)).1, fun x => rfl, fun x a h => (dSl_cw (C := C) (show dSl 5 x = some a from h)).2.1, fun x a h => (dSl_cw (C := C) (show dSl 5 x = some a from h)).2.2, fun a => rfl, fun a => noids_one (NoId.asl fun cs hc => by obtain ⟨y, _, rfl⟩ := List.mem_map.1 hc; exact law5.noid y), (fun ks h => nomatch h), (fun l s h => nomatch h), (fun s l h => nomatch h)⟩
theorem decx51 {x : TV τ} {a : GPart} (h : dec51 x = some a) : ∃ x0 x1 x2 x3, x = .agg [x0, x1, x2, x3] ∧ dec2 x0 = some a.Snap ∧ dec3 x1 = some a.Index ∧ dec3 x2 = some a.Many ∧ dec49 x3 = some a.Data := by
  unfold dec51 at h
  split at h
  · rename_i x0 x1 x2 x3
    split at h
    · rename_i a0 h0
      split at h
      · rename_i a1 h1
        split at h
        · rename_i a2 h2
          split at h
          · rename_i a3 h3
            cases h
            exact ⟨_, _, _, _, rfl, h0, h1, h2, h3⟩
          · cases h
        · cases h
      · cases h
    · cases h
  · cases h
theorem law51 : CodAt C 51 := ⟨fun x => by show ((enc2 x.Snap).cells C ++ ((enc3 x.Index).cells C ++ ((enc3 x.Many).cells C ++ ((enc49 x.Data).cells C ++ [])))) = cel51 x; unfold cel51; exact congr (congrArg (· ++ ·) (law2.cel x.Snap)) (congr (congrArg (· ++ ·) (law3.cel x.Index)) (congr (congrArg (· ++ ·) (law3.cel x.Many)) (congr (congrArg (· ++ ·) (law49.cel x.Data)) (rfl)))), fun x => by show ((cel2 x.Snap ++ (cel3 x.Index ++ (cel3 x.Many ++ (cel49 x.Data ++ []))))).length = 4; rw [List.length_append, List.length_append, List.length_append, List.length_append]; have e0 : (cel2 x.Snap).length = 1 := law2.len x.Snap; have e1 : (cel3 x.Index).length = 1 := law3.len x.Index; have e2 : (cel3 x.Many).length = 1 := law3.len x.Many; have e3 : (cel49 x.Data).length = 1 := law49.len x.Data; simp only [e0, e1, e2, e3, List.length_nil], fun x a h => by obtain ⟨x0, x1, x2, x3, rfl, h0, h1, h2, h3⟩ := decx51 (show dec51 x = some a from h); exact CW.append (law2.dec _ _ h0) (CW.append (law3.dec _ _ h1) (CW.append (law3.dec _ _ h2) (CW.append (law49.dec _ _ h3) (CW.refl [])))), fun x => by show (((enc2 x.Snap).ok && ((enc3 x.Index).ok && ((enc3 x.Many).ok && ((enc49 x.Data).ok && true))))) = true; simp only [show (enc2 x.Snap).ok = true from law2.ok _, show (enc3 x.Index).ok = true from law3.ok _, show (enc3 x.Many).ok = true from law3.ok _, show (enc49 x.Data).ok = true from law49.ok _, Bool.and_self], fun x a h => by obtain ⟨x0, x1, x2, x3, rfl, h0, h1, h2, h3⟩ := decx51 (show dec51 x = some a from h); show ((x0.ok && (x1.ok && (x2.ok && (x3.ok && true))))) = true; simp only [law2.decok _ _ h0, law3.decok _ _ h1, law3.decok _ _ h2, law49.decok _ _ h3, Bool.and_self], fun x a h => by obtain ⟨x0, x1, x2, x3, rfl, h0, h1, h2, h3⟩ := decx51 (show dec51 x = some a from h); rfl, fun x => by show ((cel2 x.Snap ++ (cel3 x.Index ++ (cel3 x.Many ++ (cel49 x.Data ++ []))))).all AV.one = true; simp only [List.all_append, List.all_nil, show (cel2 x.Snap).all AV.one = true from law2.one _, show (cel3 x.Index).all AV.one = true from law3.one _, show (cel3 x.Many).all AV.one = true from law3.one _, show (cel49 x.Data).all AV.one = true from law49.one _, Bool.and_self], fun x => noids_app (law2.noid x.Snap) (noids_app (law3.noid x.Index) (noids_app (law3.noid x.Many) (noids_app (law49.noid x.Data) (trivial)))), (fun ks h => nomatch h), (fun l s h => nomatch h), (fun s l h => nomatch h)⟩
theorem law32 : CodAt C 32 := ⟨fun x => rfl, fun x => rfl, fun x a h => (dSl_cw (C := C) (show dSl 51 x = some a from h)).1, fun x => rfl, fun x a h => (dSl_cw (C := C) (show dSl 51 x = some a from h)).2.1, fun x a h => (dSl_cw (C := C) (show dSl 51 x = some a from h)).2.2, fun a => rfl, fun a => noids_one (NoId.asl fun cs hc => by obtain ⟨y, _, rfl⟩ := List.mem_map.1 hc; exact law51.noid y), (fun ks h => nomatch h), (fun l s h => nomatch h), (fun s l h => nomatch h)⟩
theorem decx33 {x : TV τ} {a : GSnap} (h : dec33 x = some a) : ∃ x0 x1 x2 x3 x4 x5 x6 x7 x8 x9 x10 x11 x12 x13 x14 x15 x16 x17, x = .agg [x0, x1, x2, x3, x4, x5, x6, x7, x8, x9, x10, x11, x12, x13, x14, x15, x16, x17] ∧ dec3 x0 = some a.Site ∧ dec2 x1 = some a.Applied ∧ dec4 x2 = some a.Booted ∧ dec26 x3 = some a.Epoch ∧ dec2 x4 = some a.Clock ∧ dec24 x5 = some a.Vector_ ∧ dec24 x6 = some a.Last ∧ dec27 x7 = some a.Base ∧ dec28 x8 = some a.Log ∧ dec2 x9 = some a.Frontier ∧ dec24 x10 = some a.Starts ∧ dec29 x11 = some a.Kept ∧ dec30 x12 = some a.Known ∧ dec24 x13 = some a.Told ∧ dec24 x14 = some a.Clocks ∧ dec24 x15 = some a.Sure ∧ dec31 x16 = some a.Rows ∧ dec32 x17 = some a.Parts := by
  unfold dec33 at h
  split at h
  · rename_i x0 x1 x2 x3 x4 x5 x6 x7 x8 x9 x10 x11 x12 x13 x14 x15 x16 x17
    split at h
    · rename_i a0 h0
      split at h
      · rename_i a1 h1
        split at h
        · rename_i a2 h2
          split at h
          · rename_i a3 h3
            split at h
            · rename_i a4 h4
              split at h
              · rename_i a5 h5
                split at h
                · rename_i a6 h6
                  split at h
                  · rename_i a7 h7
                    split at h
                    · rename_i a8 h8
                      split at h
                      · rename_i a9 h9
                        split at h
                        · rename_i a10 h10
                          split at h
                          · rename_i a11 h11
                            split at h
                            · rename_i a12 h12
                              split at h
                              · rename_i a13 h13
                                split at h
                                · rename_i a14 h14
                                  split at h
                                  · rename_i a15 h15
                                    split at h
                                    · rename_i a16 h16
                                      split at h
                                      · rename_i a17 h17
                                        cases h
                                        exact ⟨_, _, _, _, _, _, _, _, _, _, _, _, _, _, _, _, _, _, rfl, h0, h1, h2, h3, h4, h5, h6, h7, h8, h9, h10, h11, h12, h13, h14, h15, h16, h17⟩
                                      · cases h
                                    · cases h
                                  · cases h
                                · cases h
                              · cases h
                            · cases h
                          · cases h
                        · cases h
                      · cases h
                    · cases h
                  · cases h
                · cases h
              · cases h
            · cases h
          · cases h
        · cases h
      · cases h
    · cases h
  · cases h
theorem law33 : CodAt C 33 := ⟨fun x => by show ((enc3 x.Site).cells C ++ ((enc2 x.Applied).cells C ++ ((enc4 x.Booted).cells C ++ ((enc26 x.Epoch).cells C ++ ((enc2 x.Clock).cells C ++ ((enc24 x.Vector_).cells C ++ ((enc24 x.Last).cells C ++ ((enc27 x.Base).cells C ++ ((enc28 x.Log).cells C ++ ((enc2 x.Frontier).cells C ++ ((enc24 x.Starts).cells C ++ ((enc29 x.Kept).cells C ++ ((enc30 x.Known).cells C ++ ((enc24 x.Told).cells C ++ ((enc24 x.Clocks).cells C ++ ((enc24 x.Sure).cells C ++ ((enc31 x.Rows).cells C ++ ((enc32 x.Parts).cells C ++ [])))))))))))))))))) = cel33 x; unfold cel33; exact congr (congrArg (· ++ ·) (law3.cel x.Site)) (congr (congrArg (· ++ ·) (law2.cel x.Applied)) (congr (congrArg (· ++ ·) (law4.cel x.Booted)) (congr (congrArg (· ++ ·) (law26.cel x.Epoch)) (congr (congrArg (· ++ ·) (law2.cel x.Clock)) (congr (congrArg (· ++ ·) (law24.cel x.Vector_)) (congr (congrArg (· ++ ·) (law24.cel x.Last)) (congr (congrArg (· ++ ·) (law27.cel x.Base)) (congr (congrArg (· ++ ·) (law28.cel x.Log)) (congr (congrArg (· ++ ·) (law2.cel x.Frontier)) (congr (congrArg (· ++ ·) (law24.cel x.Starts)) (congr (congrArg (· ++ ·) (law29.cel x.Kept)) (congr (congrArg (· ++ ·) (law30.cel x.Known)) (congr (congrArg (· ++ ·) (law24.cel x.Told)) (congr (congrArg (· ++ ·) (law24.cel x.Clocks)) (congr (congrArg (· ++ ·) (law24.cel x.Sure)) (congr (congrArg (· ++ ·) (law31.cel x.Rows)) (congr (congrArg (· ++ ·) (law32.cel x.Parts)) (rfl)))))))))))))))))), fun x => by show ((cel3 x.Site ++ (cel2 x.Applied ++ (cel4 x.Booted ++ (cel26 x.Epoch ++ (cel2 x.Clock ++ (cel24 x.Vector_ ++ (cel24 x.Last ++ (cel27 x.Base ++ (cel28 x.Log ++ (cel2 x.Frontier ++ (cel24 x.Starts ++ (cel29 x.Kept ++ (cel30 x.Known ++ (cel24 x.Told ++ (cel24 x.Clocks ++ (cel24 x.Sure ++ (cel31 x.Rows ++ (cel32 x.Parts ++ []))))))))))))))))))).length = 154; rw [List.length_append, List.length_append, List.length_append, List.length_append, List.length_append, List.length_append, List.length_append, List.length_append, List.length_append, List.length_append, List.length_append, List.length_append, List.length_append, List.length_append, List.length_append, List.length_append, List.length_append, List.length_append]; have e0 : (cel3 x.Site).length = 1 := law3.len x.Site; have e1 : (cel2 x.Applied).length = 1 := law2.len x.Applied; have e2 : (cel4 x.Booted).length = 1 := law4.len x.Booted; have e3 : (cel26 x.Epoch).length = 25 := law26.len x.Epoch; have e4 : (cel2 x.Clock).length = 1 := law2.len x.Clock; have e5 : (cel24 x.Vector_).length = 8 := law24.len x.Vector_; have e6 : (cel24 x.Last).length = 8 := law24.len x.Last; have e7 : (cel27 x.Base).length = 1 := law27.len x.Base; have e8 : (cel28 x.Log).length = 1 := law28.len x.Log; have e9 : (cel2 x.Frontier).length = 1 := law2.len x.Frontier; have e10 : (cel24 x.Starts).length = 8 := law24.len x.Starts; have e11 : (cel29 x.Kept).length = 8 := law29.len x.Kept; have e12 : (cel30 x.Known).length = 64 := law30.len x.Known; have e13 : (cel24 x.Told).length = 8 := law24.len x.Told; have e14 : (cel24 x.Clocks).length = 8 := law24.len x.Clocks; have e15 : (cel24 x.Sure).length = 8 := law24.len x.Sure; have e16 : (cel31 x.Rows).length = 1 := law31.len x.Rows; have e17 : (cel32 x.Parts).length = 1 := law32.len x.Parts; simp only [e0, e1, e2, e3, e4, e5, e6, e7, e8, e9, e10, e11, e12, e13, e14, e15, e16, e17, List.length_nil], fun x a h => by obtain ⟨x0, x1, x2, x3, x4, x5, x6, x7, x8, x9, x10, x11, x12, x13, x14, x15, x16, x17, rfl, h0, h1, h2, h3, h4, h5, h6, h7, h8, h9, h10, h11, h12, h13, h14, h15, h16, h17⟩ := decx33 (show dec33 x = some a from h); exact CW.append (law3.dec _ _ h0) (CW.append (law2.dec _ _ h1) (CW.append (law4.dec _ _ h2) (CW.append (law26.dec _ _ h3) (CW.append (law2.dec _ _ h4) (CW.append (law24.dec _ _ h5) (CW.append (law24.dec _ _ h6) (CW.append (law27.dec _ _ h7) (CW.append (law28.dec _ _ h8) (CW.append (law2.dec _ _ h9) (CW.append (law24.dec _ _ h10) (CW.append (law29.dec _ _ h11) (CW.append (law30.dec _ _ h12) (CW.append (law24.dec _ _ h13) (CW.append (law24.dec _ _ h14) (CW.append (law24.dec _ _ h15) (CW.append (law31.dec _ _ h16) (CW.append (law32.dec _ _ h17) (CW.refl [])))))))))))))))))), fun x => by show (((enc3 x.Site).ok && ((enc2 x.Applied).ok && ((enc4 x.Booted).ok && ((enc26 x.Epoch).ok && ((enc2 x.Clock).ok && ((enc24 x.Vector_).ok && ((enc24 x.Last).ok && ((enc27 x.Base).ok && ((enc28 x.Log).ok && ((enc2 x.Frontier).ok && ((enc24 x.Starts).ok && ((enc29 x.Kept).ok && ((enc30 x.Known).ok && ((enc24 x.Told).ok && ((enc24 x.Clocks).ok && ((enc24 x.Sure).ok && ((enc31 x.Rows).ok && ((enc32 x.Parts).ok && true))))))))))))))))))) = true; simp only [show (enc3 x.Site).ok = true from law3.ok _, show (enc2 x.Applied).ok = true from law2.ok _, show (enc4 x.Booted).ok = true from law4.ok _, show (enc26 x.Epoch).ok = true from law26.ok _, show (enc2 x.Clock).ok = true from law2.ok _, show (enc24 x.Vector_).ok = true from law24.ok _, show (enc24 x.Last).ok = true from law24.ok _, show (enc27 x.Base).ok = true from law27.ok _, show (enc28 x.Log).ok = true from law28.ok _, show (enc2 x.Frontier).ok = true from law2.ok _, show (enc24 x.Starts).ok = true from law24.ok _, show (enc29 x.Kept).ok = true from law29.ok _, show (enc30 x.Known).ok = true from law30.ok _, show (enc24 x.Told).ok = true from law24.ok _, show (enc24 x.Clocks).ok = true from law24.ok _, show (enc24 x.Sure).ok = true from law24.ok _, show (enc31 x.Rows).ok = true from law31.ok _, show (enc32 x.Parts).ok = true from law32.ok _, Bool.and_self], fun x a h => by obtain ⟨x0, x1, x2, x3, x4, x5, x6, x7, x8, x9, x10, x11, x12, x13, x14, x15, x16, x17, rfl, h0, h1, h2, h3, h4, h5, h6, h7, h8, h9, h10, h11, h12, h13, h14, h15, h16, h17⟩ := decx33 (show dec33 x = some a from h); show ((x0.ok && (x1.ok && (x2.ok && (x3.ok && (x4.ok && (x5.ok && (x6.ok && (x7.ok && (x8.ok && (x9.ok && (x10.ok && (x11.ok && (x12.ok && (x13.ok && (x14.ok && (x15.ok && (x16.ok && (x17.ok && true))))))))))))))))))) = true; simp only [law3.decok _ _ h0, law2.decok _ _ h1, law4.decok _ _ h2, law26.decok _ _ h3, law2.decok _ _ h4, law24.decok _ _ h5, law24.decok _ _ h6, law27.decok _ _ h7, law28.decok _ _ h8, law2.decok _ _ h9, law24.decok _ _ h10, law29.decok _ _ h11, law30.decok _ _ h12, law24.decok _ _ h13, law24.decok _ _ h14, law24.decok _ _ h15, law31.decok _ _ h16, law32.decok _ _ h17, Bool.and_self], fun x a h => by obtain ⟨x0, x1, x2, x3, x4, x5, x6, x7, x8, x9, x10, x11, x12, x13, x14, x15, x16, x17, rfl, h0, h1, h2, h3, h4, h5, h6, h7, h8, h9, h10, h11, h12, h13, h14, h15, h16, h17⟩ := decx33 (show dec33 x = some a from h); rfl, fun x => by show ((cel3 x.Site ++ (cel2 x.Applied ++ (cel4 x.Booted ++ (cel26 x.Epoch ++ (cel2 x.Clock ++ (cel24 x.Vector_ ++ (cel24 x.Last ++ (cel27 x.Base ++ (cel28 x.Log ++ (cel2 x.Frontier ++ (cel24 x.Starts ++ (cel29 x.Kept ++ (cel30 x.Known ++ (cel24 x.Told ++ (cel24 x.Clocks ++ (cel24 x.Sure ++ (cel31 x.Rows ++ (cel32 x.Parts ++ []))))))))))))))))))).all AV.one = true; simp only [List.all_append, List.all_nil, show (cel3 x.Site).all AV.one = true from law3.one _, show (cel2 x.Applied).all AV.one = true from law2.one _, show (cel4 x.Booted).all AV.one = true from law4.one _, show (cel26 x.Epoch).all AV.one = true from law26.one _, show (cel2 x.Clock).all AV.one = true from law2.one _, show (cel24 x.Vector_).all AV.one = true from law24.one _, show (cel24 x.Last).all AV.one = true from law24.one _, show (cel27 x.Base).all AV.one = true from law27.one _, show (cel28 x.Log).all AV.one = true from law28.one _, show (cel2 x.Frontier).all AV.one = true from law2.one _, show (cel24 x.Starts).all AV.one = true from law24.one _, show (cel29 x.Kept).all AV.one = true from law29.one _, show (cel30 x.Known).all AV.one = true from law30.one _, show (cel24 x.Told).all AV.one = true from law24.one _, show (cel24 x.Clocks).all AV.one = true from law24.one _, show (cel24 x.Sure).all AV.one = true from law24.one _, show (cel31 x.Rows).all AV.one = true from law31.one _, show (cel32 x.Parts).all AV.one = true from law32.one _, Bool.and_self], fun x => noids_app (law3.noid x.Site) (noids_app (law2.noid x.Applied) (noids_app (law4.noid x.Booted) (noids_app (law26.noid x.Epoch) (noids_app (law2.noid x.Clock) (noids_app (law24.noid x.Vector_) (noids_app (law24.noid x.Last) (noids_app (law27.noid x.Base) (noids_app (law28.noid x.Log) (noids_app (law2.noid x.Frontier) (noids_app (law24.noid x.Starts) (noids_app (law29.noid x.Kept) (noids_app (law30.noid x.Known) (noids_app (law24.noid x.Told) (noids_app (law24.noid x.Clocks) (noids_app (law24.noid x.Sure) (noids_app (law31.noid x.Rows) (noids_app (law32.noid x.Parts) (trivial)))))))))))))))))), (fun ks h => nomatch h), (fun l s h => nomatch h), (fun s l h => nomatch h)⟩
theorem decx34 {x : TV τ} {a : GSnap} (h : dec34 x = some a) : ∃ x0 x1 x2 x3 x4 x5 x6 x7 x8 x9 x10 x11 x12 x13 x14 x15 x16 x17, x = .agg [x0, x1, x2, x3, x4, x5, x6, x7, x8, x9, x10, x11, x12, x13, x14, x15, x16, x17] ∧ dec3 x0 = some a.Site ∧ dec2 x1 = some a.Applied ∧ dec4 x2 = some a.Booted ∧ dec26 x3 = some a.Epoch ∧ dec2 x4 = some a.Clock ∧ dec24 x5 = some a.Vector_ ∧ dec24 x6 = some a.Last ∧ dec27 x7 = some a.Base ∧ dec28 x8 = some a.Log ∧ dec2 x9 = some a.Frontier ∧ dec24 x10 = some a.Starts ∧ dec29 x11 = some a.Kept ∧ dec30 x12 = some a.Known ∧ dec24 x13 = some a.Told ∧ dec24 x14 = some a.Clocks ∧ dec24 x15 = some a.Sure ∧ dec31 x16 = some a.Rows ∧ dec32 x17 = some a.Parts := by
  unfold dec34 at h
  split at h
  · rename_i x0 x1 x2 x3 x4 x5 x6 x7 x8 x9 x10 x11 x12 x13 x14 x15 x16 x17
    split at h
    · rename_i a0 h0
      split at h
      · rename_i a1 h1
        split at h
        · rename_i a2 h2
          split at h
          · rename_i a3 h3
            split at h
            · rename_i a4 h4
              split at h
              · rename_i a5 h5
                split at h
                · rename_i a6 h6
                  split at h
                  · rename_i a7 h7
                    split at h
                    · rename_i a8 h8
                      split at h
                      · rename_i a9 h9
                        split at h
                        · rename_i a10 h10
                          split at h
                          · rename_i a11 h11
                            split at h
                            · rename_i a12 h12
                              split at h
                              · rename_i a13 h13
                                split at h
                                · rename_i a14 h14
                                  split at h
                                  · rename_i a15 h15
                                    split at h
                                    · rename_i a16 h16
                                      split at h
                                      · rename_i a17 h17
                                        cases h
                                        exact ⟨_, _, _, _, _, _, _, _, _, _, _, _, _, _, _, _, _, _, rfl, h0, h1, h2, h3, h4, h5, h6, h7, h8, h9, h10, h11, h12, h13, h14, h15, h16, h17⟩
                                      · cases h
                                    · cases h
                                  · cases h
                                · cases h
                              · cases h
                            · cases h
                          · cases h
                        · cases h
                      · cases h
                    · cases h
                  · cases h
                · cases h
              · cases h
            · cases h
          · cases h
        · cases h
      · cases h
    · cases h
  · cases h
theorem law34 : CodAt C 34 := ⟨fun x => by show ((enc3 x.Site).cells C ++ ((enc2 x.Applied).cells C ++ ((enc4 x.Booted).cells C ++ ((enc26 x.Epoch).cells C ++ ((enc2 x.Clock).cells C ++ ((enc24 x.Vector_).cells C ++ ((enc24 x.Last).cells C ++ ((enc27 x.Base).cells C ++ ((enc28 x.Log).cells C ++ ((enc2 x.Frontier).cells C ++ ((enc24 x.Starts).cells C ++ ((enc29 x.Kept).cells C ++ ((enc30 x.Known).cells C ++ ((enc24 x.Told).cells C ++ ((enc24 x.Clocks).cells C ++ ((enc24 x.Sure).cells C ++ ((enc31 x.Rows).cells C ++ ((enc32 x.Parts).cells C ++ [])))))))))))))))))) = cel34 x; unfold cel34; exact congr (congrArg (· ++ ·) (law3.cel x.Site)) (congr (congrArg (· ++ ·) (law2.cel x.Applied)) (congr (congrArg (· ++ ·) (law4.cel x.Booted)) (congr (congrArg (· ++ ·) (law26.cel x.Epoch)) (congr (congrArg (· ++ ·) (law2.cel x.Clock)) (congr (congrArg (· ++ ·) (law24.cel x.Vector_)) (congr (congrArg (· ++ ·) (law24.cel x.Last)) (congr (congrArg (· ++ ·) (law27.cel x.Base)) (congr (congrArg (· ++ ·) (law28.cel x.Log)) (congr (congrArg (· ++ ·) (law2.cel x.Frontier)) (congr (congrArg (· ++ ·) (law24.cel x.Starts)) (congr (congrArg (· ++ ·) (law29.cel x.Kept)) (congr (congrArg (· ++ ·) (law30.cel x.Known)) (congr (congrArg (· ++ ·) (law24.cel x.Told)) (congr (congrArg (· ++ ·) (law24.cel x.Clocks)) (congr (congrArg (· ++ ·) (law24.cel x.Sure)) (congr (congrArg (· ++ ·) (law31.cel x.Rows)) (congr (congrArg (· ++ ·) (law32.cel x.Parts)) (rfl)))))))))))))))))), fun x => by show ((cel3 x.Site ++ (cel2 x.Applied ++ (cel4 x.Booted ++ (cel26 x.Epoch ++ (cel2 x.Clock ++ (cel24 x.Vector_ ++ (cel24 x.Last ++ (cel27 x.Base ++ (cel28 x.Log ++ (cel2 x.Frontier ++ (cel24 x.Starts ++ (cel29 x.Kept ++ (cel30 x.Known ++ (cel24 x.Told ++ (cel24 x.Clocks ++ (cel24 x.Sure ++ (cel31 x.Rows ++ (cel32 x.Parts ++ []))))))))))))))))))).length = 154; rw [List.length_append, List.length_append, List.length_append, List.length_append, List.length_append, List.length_append, List.length_append, List.length_append, List.length_append, List.length_append, List.length_append, List.length_append, List.length_append, List.length_append, List.length_append, List.length_append, List.length_append, List.length_append]; have e0 : (cel3 x.Site).length = 1 := law3.len x.Site; have e1 : (cel2 x.Applied).length = 1 := law2.len x.Applied; have e2 : (cel4 x.Booted).length = 1 := law4.len x.Booted; have e3 : (cel26 x.Epoch).length = 25 := law26.len x.Epoch; have e4 : (cel2 x.Clock).length = 1 := law2.len x.Clock; have e5 : (cel24 x.Vector_).length = 8 := law24.len x.Vector_; have e6 : (cel24 x.Last).length = 8 := law24.len x.Last; have e7 : (cel27 x.Base).length = 1 := law27.len x.Base; have e8 : (cel28 x.Log).length = 1 := law28.len x.Log; have e9 : (cel2 x.Frontier).length = 1 := law2.len x.Frontier; have e10 : (cel24 x.Starts).length = 8 := law24.len x.Starts; have e11 : (cel29 x.Kept).length = 8 := law29.len x.Kept; have e12 : (cel30 x.Known).length = 64 := law30.len x.Known; have e13 : (cel24 x.Told).length = 8 := law24.len x.Told; have e14 : (cel24 x.Clocks).length = 8 := law24.len x.Clocks; have e15 : (cel24 x.Sure).length = 8 := law24.len x.Sure; have e16 : (cel31 x.Rows).length = 1 := law31.len x.Rows; have e17 : (cel32 x.Parts).length = 1 := law32.len x.Parts; simp only [e0, e1, e2, e3, e4, e5, e6, e7, e8, e9, e10, e11, e12, e13, e14, e15, e16, e17, List.length_nil], fun x a h => by obtain ⟨x0, x1, x2, x3, x4, x5, x6, x7, x8, x9, x10, x11, x12, x13, x14, x15, x16, x17, rfl, h0, h1, h2, h3, h4, h5, h6, h7, h8, h9, h10, h11, h12, h13, h14, h15, h16, h17⟩ := decx34 (show dec34 x = some a from h); exact CW.append (law3.dec _ _ h0) (CW.append (law2.dec _ _ h1) (CW.append (law4.dec _ _ h2) (CW.append (law26.dec _ _ h3) (CW.append (law2.dec _ _ h4) (CW.append (law24.dec _ _ h5) (CW.append (law24.dec _ _ h6) (CW.append (law27.dec _ _ h7) (CW.append (law28.dec _ _ h8) (CW.append (law2.dec _ _ h9) (CW.append (law24.dec _ _ h10) (CW.append (law29.dec _ _ h11) (CW.append (law30.dec _ _ h12) (CW.append (law24.dec _ _ h13) (CW.append (law24.dec _ _ h14) (CW.append (law24.dec _ _ h15) (CW.append (law31.dec _ _ h16) (CW.append (law32.dec _ _ h17) (CW.refl [])))))))))))))))))), fun x => by show (((enc3 x.Site).ok && ((enc2 x.Applied).ok && ((enc4 x.Booted).ok && ((enc26 x.Epoch).ok && ((enc2 x.Clock).ok && ((enc24 x.Vector_).ok && ((enc24 x.Last).ok && ((enc27 x.Base).ok && ((enc28 x.Log).ok && ((enc2 x.Frontier).ok && ((enc24 x.Starts).ok && ((enc29 x.Kept).ok && ((enc30 x.Known).ok && ((enc24 x.Told).ok && ((enc24 x.Clocks).ok && ((enc24 x.Sure).ok && ((enc31 x.Rows).ok && ((enc32 x.Parts).ok && true))))))))))))))))))) = true; simp only [show (enc3 x.Site).ok = true from law3.ok _, show (enc2 x.Applied).ok = true from law2.ok _, show (enc4 x.Booted).ok = true from law4.ok _, show (enc26 x.Epoch).ok = true from law26.ok _, show (enc2 x.Clock).ok = true from law2.ok _, show (enc24 x.Vector_).ok = true from law24.ok _, show (enc24 x.Last).ok = true from law24.ok _, show (enc27 x.Base).ok = true from law27.ok _, show (enc28 x.Log).ok = true from law28.ok _, show (enc2 x.Frontier).ok = true from law2.ok _, show (enc24 x.Starts).ok = true from law24.ok _, show (enc29 x.Kept).ok = true from law29.ok _, show (enc30 x.Known).ok = true from law30.ok _, show (enc24 x.Told).ok = true from law24.ok _, show (enc24 x.Clocks).ok = true from law24.ok _, show (enc24 x.Sure).ok = true from law24.ok _, show (enc31 x.Rows).ok = true from law31.ok _, show (enc32 x.Parts).ok = true from law32.ok _, Bool.and_self], fun x a h => by obtain ⟨x0, x1, x2, x3, x4, x5, x6, x7, x8, x9, x10, x11, x12, x13, x14, x15, x16, x17, rfl, h0, h1, h2, h3, h4, h5, h6, h7, h8, h9, h10, h11, h12, h13, h14, h15, h16, h17⟩ := decx34 (show dec34 x = some a from h); show ((x0.ok && (x1.ok && (x2.ok && (x3.ok && (x4.ok && (x5.ok && (x6.ok && (x7.ok && (x8.ok && (x9.ok && (x10.ok && (x11.ok && (x12.ok && (x13.ok && (x14.ok && (x15.ok && (x16.ok && (x17.ok && true))))))))))))))))))) = true; simp only [law3.decok _ _ h0, law2.decok _ _ h1, law4.decok _ _ h2, law26.decok _ _ h3, law2.decok _ _ h4, law24.decok _ _ h5, law24.decok _ _ h6, law27.decok _ _ h7, law28.decok _ _ h8, law2.decok _ _ h9, law24.decok _ _ h10, law29.decok _ _ h11, law30.decok _ _ h12, law24.decok _ _ h13, law24.decok _ _ h14, law24.decok _ _ h15, law31.decok _ _ h16, law32.decok _ _ h17, Bool.and_self], fun x a h => by obtain ⟨x0, x1, x2, x3, x4, x5, x6, x7, x8, x9, x10, x11, x12, x13, x14, x15, x16, x17, rfl, h0, h1, h2, h3, h4, h5, h6, h7, h8, h9, h10, h11, h12, h13, h14, h15, h16, h17⟩ := decx34 (show dec34 x = some a from h); rfl, fun x => by show ((cel3 x.Site ++ (cel2 x.Applied ++ (cel4 x.Booted ++ (cel26 x.Epoch ++ (cel2 x.Clock ++ (cel24 x.Vector_ ++ (cel24 x.Last ++ (cel27 x.Base ++ (cel28 x.Log ++ (cel2 x.Frontier ++ (cel24 x.Starts ++ (cel29 x.Kept ++ (cel30 x.Known ++ (cel24 x.Told ++ (cel24 x.Clocks ++ (cel24 x.Sure ++ (cel31 x.Rows ++ (cel32 x.Parts ++ []))))))))))))))))))).all AV.one = true; simp only [List.all_append, List.all_nil, show (cel3 x.Site).all AV.one = true from law3.one _, show (cel2 x.Applied).all AV.one = true from law2.one _, show (cel4 x.Booted).all AV.one = true from law4.one _, show (cel26 x.Epoch).all AV.one = true from law26.one _, show (cel2 x.Clock).all AV.one = true from law2.one _, show (cel24 x.Vector_).all AV.one = true from law24.one _, show (cel24 x.Last).all AV.one = true from law24.one _, show (cel27 x.Base).all AV.one = true from law27.one _, show (cel28 x.Log).all AV.one = true from law28.one _, show (cel2 x.Frontier).all AV.one = true from law2.one _, show (cel24 x.Starts).all AV.one = true from law24.one _, show (cel29 x.Kept).all AV.one = true from law29.one _, show (cel30 x.Known).all AV.one = true from law30.one _, show (cel24 x.Told).all AV.one = true from law24.one _, show (cel24 x.Clocks).all AV.one = true from law24.one _, show (cel24 x.Sure).all AV.one = true from law24.one _, show (cel31 x.Rows).all AV.one = true from law31.one _, show (cel32 x.Parts).all AV.one = true from law32.one _, Bool.and_self], fun x => noids_app (law3.noid x.Site) (noids_app (law2.noid x.Applied) (noids_app (law4.noid x.Booted) (noids_app (law26.noid x.Epoch) (noids_app (law2.noid x.Clock) (noids_app (law24.noid x.Vector_) (noids_app (law24.noid x.Last) (noids_app (law27.noid x.Base) (noids_app (law28.noid x.Log) (noids_app (law2.noid x.Frontier) (noids_app (law24.noid x.Starts) (noids_app (law29.noid x.Kept) (noids_app (law30.noid x.Known) (noids_app (law24.noid x.Told) (noids_app (law24.noid x.Clocks) (noids_app (law24.noid x.Sure) (noids_app (law31.noid x.Rows) (noids_app (law32.noid x.Parts) (trivial)))))))))))))))))), (fun ks h => nomatch h), (fun l s h => nomatch h), (fun s l h => nomatch h)⟩
theorem decx40 {x : TV τ} {a : GStamp} (h : dec40 x = some a) : ∃ x0 x1, x = .agg [x0, x1] ∧ dec2 x0 = some a.Time ∧ dec3 x1 = some a.Site := by
  unfold dec40 at h
  split at h
  · rename_i x0 x1
    split at h
    · rename_i a0 h0
      split at h
      · rename_i a1 h1
        cases h
        exact ⟨_, _, rfl, h0, h1⟩
      · cases h
    · cases h
  · cases h
theorem law40 : CodAt C 40 := ⟨fun x => by show ((enc2 x.Time).cells C ++ ((enc3 x.Site).cells C ++ [])) = cel40 x; unfold cel40; exact congr (congrArg (· ++ ·) (law2.cel x.Time)) (congr (congrArg (· ++ ·) (law3.cel x.Site)) (rfl)), fun x => by show ((cel2 x.Time ++ (cel3 x.Site ++ []))).length = 2; rw [List.length_append, List.length_append]; have e0 : (cel2 x.Time).length = 1 := law2.len x.Time; have e1 : (cel3 x.Site).length = 1 := law3.len x.Site; simp only [e0, e1, List.length_nil], fun x a h => by obtain ⟨x0, x1, rfl, h0, h1⟩ := decx40 (show dec40 x = some a from h); exact CW.append (law2.dec _ _ h0) (CW.append (law3.dec _ _ h1) (CW.refl [])), fun x => by show (((enc2 x.Time).ok && ((enc3 x.Site).ok && true))) = true; simp only [show (enc2 x.Time).ok = true from law2.ok _, show (enc3 x.Site).ok = true from law3.ok _, Bool.and_self], fun x a h => by obtain ⟨x0, x1, rfl, h0, h1⟩ := decx40 (show dec40 x = some a from h); show ((x0.ok && (x1.ok && true))) = true; simp only [law2.decok _ _ h0, law3.decok _ _ h1, Bool.and_self], fun x a h => by obtain ⟨x0, x1, rfl, h0, h1⟩ := decx40 (show dec40 x = some a from h); rfl, fun x => by show ((cel2 x.Time ++ (cel3 x.Site ++ []))).all AV.one = true; simp only [List.all_append, List.all_nil, show (cel2 x.Time).all AV.one = true from law2.one _, show (cel3 x.Site).all AV.one = true from law3.one _, Bool.and_self], fun x => noids_app (law2.noid x.Time) (noids_app (law3.noid x.Site) (trivial)), fun ks h a b => by have := eqCells_append (law2.kd _ rfl a.Time b.Time) (eqCells_append (law3.kd _ rfl a.Site b.Site) ((show eqCells [] [] [] = some true from rfl))); cases h; exact this, (fun l s h => nomatch h), (fun s l h => nomatch h)⟩
theorem decx42 {x : TV τ} {a : GOp} (h : dec42 x = some a) : ∃ x0 x1 x2 x3 x4 x5 x6, x = .agg [x0, x1, x2, x3, x4, x5, x6] ∧ dec41 x0 = some a.Stamp ∧ dec3 x1 = some a.Kind ∧ dec2 x2 = some a.Node ∧ dec2 x3 = some a.Parent ∧ dec9 x4 = some a.Name ∧ dec9 x5 = some a.Key ∧ dec9 x6 = some a.Value := by
  unfold dec42 at h
  split at h
  · rename_i x0 x1 x2 x3 x4 x5 x6
    split at h
    · rename_i a0 h0
      split at h
      · rename_i a1 h1
        split at h
        · rename_i a2 h2
          split at h
          · rename_i a3 h3
            split at h
            · rename_i a4 h4
              split at h
              · rename_i a5 h5
                split at h
                · rename_i a6 h6
                  cases h
                  exact ⟨_, _, _, _, _, _, _, rfl, h0, h1, h2, h3, h4, h5, h6⟩
                · cases h
              · cases h
            · cases h
          · cases h
        · cases h
      · cases h
    · cases h
  · cases h
theorem law42 : CodAt C 42 := ⟨fun x => by show ((enc41 x.Stamp).cells C ++ ((enc3 x.Kind).cells C ++ ((enc2 x.Node).cells C ++ ((enc2 x.Parent).cells C ++ ((enc9 x.Name).cells C ++ ((enc9 x.Key).cells C ++ ((enc9 x.Value).cells C ++ []))))))) = cel42 x; unfold cel42; exact congr (congrArg (· ++ ·) (law41.cel x.Stamp)) (congr (congrArg (· ++ ·) (law3.cel x.Kind)) (congr (congrArg (· ++ ·) (law2.cel x.Node)) (congr (congrArg (· ++ ·) (law2.cel x.Parent)) (congr (congrArg (· ++ ·) (law9.cel x.Name)) (congr (congrArg (· ++ ·) (law9.cel x.Key)) (congr (congrArg (· ++ ·) (law9.cel x.Value)) (rfl))))))), fun x => by show ((cel41 x.Stamp ++ (cel3 x.Kind ++ (cel2 x.Node ++ (cel2 x.Parent ++ (cel9 x.Name ++ (cel9 x.Key ++ (cel9 x.Value ++ [])))))))).length = 8; rw [List.length_append, List.length_append, List.length_append, List.length_append, List.length_append, List.length_append, List.length_append]; have e0 : (cel41 x.Stamp).length = 2 := law41.len x.Stamp; have e1 : (cel3 x.Kind).length = 1 := law3.len x.Kind; have e2 : (cel2 x.Node).length = 1 := law2.len x.Node; have e3 : (cel2 x.Parent).length = 1 := law2.len x.Parent; have e4 : (cel9 x.Name).length = 1 := law9.len x.Name; have e5 : (cel9 x.Key).length = 1 := law9.len x.Key; have e6 : (cel9 x.Value).length = 1 := law9.len x.Value; simp only [e0, e1, e2, e3, e4, e5, e6, List.length_nil], fun x a h => by obtain ⟨x0, x1, x2, x3, x4, x5, x6, rfl, h0, h1, h2, h3, h4, h5, h6⟩ := decx42 (show dec42 x = some a from h); exact CW.append (law41.dec _ _ h0) (CW.append (law3.dec _ _ h1) (CW.append (law2.dec _ _ h2) (CW.append (law2.dec _ _ h3) (CW.append (law9.dec _ _ h4) (CW.append (law9.dec _ _ h5) (CW.append (law9.dec _ _ h6) (CW.refl []))))))), fun x => by show (((enc41 x.Stamp).ok && ((enc3 x.Kind).ok && ((enc2 x.Node).ok && ((enc2 x.Parent).ok && ((enc9 x.Name).ok && ((enc9 x.Key).ok && ((enc9 x.Value).ok && true)))))))) = true; simp only [show (enc41 x.Stamp).ok = true from law41.ok _, show (enc3 x.Kind).ok = true from law3.ok _, show (enc2 x.Node).ok = true from law2.ok _, show (enc2 x.Parent).ok = true from law2.ok _, show (enc9 x.Name).ok = true from law9.ok _, show (enc9 x.Key).ok = true from law9.ok _, show (enc9 x.Value).ok = true from law9.ok _, Bool.and_self], fun x a h => by obtain ⟨x0, x1, x2, x3, x4, x5, x6, rfl, h0, h1, h2, h3, h4, h5, h6⟩ := decx42 (show dec42 x = some a from h); show ((x0.ok && (x1.ok && (x2.ok && (x3.ok && (x4.ok && (x5.ok && (x6.ok && true)))))))) = true; simp only [law41.decok _ _ h0, law3.decok _ _ h1, law2.decok _ _ h2, law2.decok _ _ h3, law9.decok _ _ h4, law9.decok _ _ h5, law9.decok _ _ h6, Bool.and_self], fun x a h => by obtain ⟨x0, x1, x2, x3, x4, x5, x6, rfl, h0, h1, h2, h3, h4, h5, h6⟩ := decx42 (show dec42 x = some a from h); rfl, fun x => by show ((cel41 x.Stamp ++ (cel3 x.Kind ++ (cel2 x.Node ++ (cel2 x.Parent ++ (cel9 x.Name ++ (cel9 x.Key ++ (cel9 x.Value ++ [])))))))).all AV.one = true; simp only [List.all_append, List.all_nil, show (cel41 x.Stamp).all AV.one = true from law41.one _, show (cel3 x.Kind).all AV.one = true from law3.one _, show (cel2 x.Node).all AV.one = true from law2.one _, show (cel2 x.Parent).all AV.one = true from law2.one _, show (cel9 x.Name).all AV.one = true from law9.one _, show (cel9 x.Key).all AV.one = true from law9.one _, show (cel9 x.Value).all AV.one = true from law9.one _, Bool.and_self], fun x => noids_app (law41.noid x.Stamp) (noids_app (law3.noid x.Kind) (noids_app (law2.noid x.Node) (noids_app (law2.noid x.Parent) (noids_app (law9.noid x.Name) (noids_app (law9.noid x.Key) (noids_app (law9.noid x.Value) (trivial))))))), fun ks h a b => by have := eqCells_append (law41.kd _ rfl a.Stamp b.Stamp) (eqCells_append (law3.kd _ rfl a.Kind b.Kind) (eqCells_append (law2.kd _ rfl a.Node b.Node) (eqCells_append (law2.kd _ rfl a.Parent b.Parent) (eqCells_append (law9.kd _ rfl a.Name b.Name) (eqCells_append (law9.kd _ rfl a.Key b.Key) (eqCells_append (law9.kd _ rfl a.Value b.Value) ((show eqCells [] [] [] = some true from rfl)))))))); cases h; exact this, (fun l s h => nomatch h), (fun s l h => nomatch h)⟩
theorem decx44 {x : TV τ} {a : GAddr} (h : dec44 x = some a) : ∃ x0 x1, x = .agg [x0, x1] ∧ dec3 x0 = some a.Group ∧ dec3 x1 = some a.Replica := by
  unfold dec44 at h
  split at h
  · rename_i x0 x1
    split at h
    · rename_i a0 h0
      split at h
      · rename_i a1 h1
        cases h
        exact ⟨_, _, rfl, h0, h1⟩
      · cases h
    · cases h
  · cases h
theorem law44 : CodAt C 44 := ⟨fun x => by show ((enc3 x.Group).cells C ++ ((enc3 x.Replica).cells C ++ [])) = cel44 x; unfold cel44; exact congr (congrArg (· ++ ·) (law3.cel x.Group)) (congr (congrArg (· ++ ·) (law3.cel x.Replica)) (rfl)), fun x => by show ((cel3 x.Group ++ (cel3 x.Replica ++ []))).length = 2; rw [List.length_append, List.length_append]; have e0 : (cel3 x.Group).length = 1 := law3.len x.Group; have e1 : (cel3 x.Replica).length = 1 := law3.len x.Replica; simp only [e0, e1, List.length_nil], fun x a h => by obtain ⟨x0, x1, rfl, h0, h1⟩ := decx44 (show dec44 x = some a from h); exact CW.append (law3.dec _ _ h0) (CW.append (law3.dec _ _ h1) (CW.refl [])), fun x => by show (((enc3 x.Group).ok && ((enc3 x.Replica).ok && true))) = true; simp only [show (enc3 x.Group).ok = true from law3.ok _, show (enc3 x.Replica).ok = true from law3.ok _, Bool.and_self], fun x a h => by obtain ⟨x0, x1, rfl, h0, h1⟩ := decx44 (show dec44 x = some a from h); show ((x0.ok && (x1.ok && true))) = true; simp only [law3.decok _ _ h0, law3.decok _ _ h1, Bool.and_self], fun x a h => by obtain ⟨x0, x1, rfl, h0, h1⟩ := decx44 (show dec44 x = some a from h); rfl, fun x => by show ((cel3 x.Group ++ (cel3 x.Replica ++ []))).all AV.one = true; simp only [List.all_append, List.all_nil, show (cel3 x.Group).all AV.one = true from law3.one _, show (cel3 x.Replica).all AV.one = true from law3.one _, Bool.and_self], fun x => noids_app (law3.noid x.Group) (noids_app (law3.noid x.Replica) (trivial)), fun ks h a b => by have := eqCells_append (law3.kd _ rfl a.Group b.Group) (eqCells_append (law3.kd _ rfl a.Replica b.Replica) ((show eqCells [] [] [] = some true from rfl))); cases h; exact this, (fun l s h => nomatch h), (fun s l h => nomatch h)⟩
theorem decx45 {x : TV τ} {a : GAddr} (h : dec45 x = some a) : ∃ x0 x1, x = .agg [x0, x1] ∧ dec3 x0 = some a.Group ∧ dec3 x1 = some a.Replica := by
  unfold dec45 at h
  split at h
  · rename_i x0 x1
    split at h
    · rename_i a0 h0
      split at h
      · rename_i a1 h1
        cases h
        exact ⟨_, _, rfl, h0, h1⟩
      · cases h
    · cases h
  · cases h
theorem law45 : CodAt C 45 := ⟨fun x => by show ((enc3 x.Group).cells C ++ ((enc3 x.Replica).cells C ++ [])) = cel45 x; unfold cel45; exact congr (congrArg (· ++ ·) (law3.cel x.Group)) (congr (congrArg (· ++ ·) (law3.cel x.Replica)) (rfl)), fun x => by show ((cel3 x.Group ++ (cel3 x.Replica ++ []))).length = 2; rw [List.length_append, List.length_append]; have e0 : (cel3 x.Group).length = 1 := law3.len x.Group; have e1 : (cel3 x.Replica).length = 1 := law3.len x.Replica; simp only [e0, e1, List.length_nil], fun x a h => by obtain ⟨x0, x1, rfl, h0, h1⟩ := decx45 (show dec45 x = some a from h); exact CW.append (law3.dec _ _ h0) (CW.append (law3.dec _ _ h1) (CW.refl [])), fun x => by show (((enc3 x.Group).ok && ((enc3 x.Replica).ok && true))) = true; simp only [show (enc3 x.Group).ok = true from law3.ok _, show (enc3 x.Replica).ok = true from law3.ok _, Bool.and_self], fun x a h => by obtain ⟨x0, x1, rfl, h0, h1⟩ := decx45 (show dec45 x = some a from h); show ((x0.ok && (x1.ok && true))) = true; simp only [law3.decok _ _ h0, law3.decok _ _ h1, Bool.and_self], fun x a h => by obtain ⟨x0, x1, rfl, h0, h1⟩ := decx45 (show dec45 x = some a from h); rfl, fun x => by show ((cel3 x.Group ++ (cel3 x.Replica ++ []))).all AV.one = true; simp only [List.all_append, List.all_nil, show (cel3 x.Group).all AV.one = true from law3.one _, show (cel3 x.Replica).all AV.one = true from law3.one _, Bool.and_self], fun x => noids_app (law3.noid x.Group) (noids_app (law3.noid x.Replica) (trivial)), fun ks h a b => by have := eqCells_append (law3.kd _ rfl a.Group b.Group) (eqCells_append (law3.kd _ rfl a.Replica b.Replica) ((show eqCells [] [] [] = some true from rfl))); cases h; exact this, (fun l s h => nomatch h), (fun s l h => nomatch h)⟩
theorem decx46 {x : TV τ} {a : GBallot} (h : dec46 x = some a) : ∃ x0 x1, x = .agg [x0, x1] ∧ dec2 x0 = some a.Round ∧ dec3 x1 = some a.Replica := by
  unfold dec46 at h
  split at h
  · rename_i x0 x1
    split at h
    · rename_i a0 h0
      split at h
      · rename_i a1 h1
        cases h
        exact ⟨_, _, rfl, h0, h1⟩
      · cases h
    · cases h
  · cases h
theorem law46 : CodAt C 46 := ⟨fun x => by show ((enc2 x.Round).cells C ++ ((enc3 x.Replica).cells C ++ [])) = cel46 x; unfold cel46; exact congr (congrArg (· ++ ·) (law2.cel x.Round)) (congr (congrArg (· ++ ·) (law3.cel x.Replica)) (rfl)), fun x => by show ((cel2 x.Round ++ (cel3 x.Replica ++ []))).length = 2; rw [List.length_append, List.length_append]; have e0 : (cel2 x.Round).length = 1 := law2.len x.Round; have e1 : (cel3 x.Replica).length = 1 := law3.len x.Replica; simp only [e0, e1, List.length_nil], fun x a h => by obtain ⟨x0, x1, rfl, h0, h1⟩ := decx46 (show dec46 x = some a from h); exact CW.append (law2.dec _ _ h0) (CW.append (law3.dec _ _ h1) (CW.refl [])), fun x => by show (((enc2 x.Round).ok && ((enc3 x.Replica).ok && true))) = true; simp only [show (enc2 x.Round).ok = true from law2.ok _, show (enc3 x.Replica).ok = true from law3.ok _, Bool.and_self], fun x a h => by obtain ⟨x0, x1, rfl, h0, h1⟩ := decx46 (show dec46 x = some a from h); show ((x0.ok && (x1.ok && true))) = true; simp only [law2.decok _ _ h0, law3.decok _ _ h1, Bool.and_self], fun x a h => by obtain ⟨x0, x1, rfl, h0, h1⟩ := decx46 (show dec46 x = some a from h); rfl, fun x => by show ((cel2 x.Round ++ (cel3 x.Replica ++ []))).all AV.one = true; simp only [List.all_append, List.all_nil, show (cel2 x.Round).all AV.one = true from law2.one _, show (cel3 x.Replica).all AV.one = true from law3.one _, Bool.and_self], fun x => noids_app (law2.noid x.Round) (noids_app (law3.noid x.Replica) (trivial)), fun ks h a b => by have := eqCells_append (law2.kd _ rfl a.Round b.Round) (eqCells_append (law3.kd _ rfl a.Replica b.Replica) ((show eqCells [] [] [] = some true from rfl))); cases h; exact this, (fun l s h => nomatch h), (fun s l h => nomatch h)⟩
theorem decx47 {x : TV τ} {a : GBallot} (h : dec47 x = some a) : ∃ x0 x1, x = .agg [x0, x1] ∧ dec2 x0 = some a.Round ∧ dec3 x1 = some a.Replica := by
  unfold dec47 at h
  split at h
  · rename_i x0 x1
    split at h
    · rename_i a0 h0
      split at h
      · rename_i a1 h1
        cases h
        exact ⟨_, _, rfl, h0, h1⟩
      · cases h
    · cases h
  · cases h
theorem law47 : CodAt C 47 := ⟨fun x => by show ((enc2 x.Round).cells C ++ ((enc3 x.Replica).cells C ++ [])) = cel47 x; unfold cel47; exact congr (congrArg (· ++ ·) (law2.cel x.Round)) (congr (congrArg (· ++ ·) (law3.cel x.Replica)) (rfl)), fun x => by show ((cel2 x.Round ++ (cel3 x.Replica ++ []))).length = 2; rw [List.length_append, List.length_append]; have e0 : (cel2 x.Round).length = 1 := law2.len x.Round; have e1 : (cel3 x.Replica).length = 1 := law3.len x.Replica; simp only [e0, e1, List.length_nil], fun x a h => by obtain ⟨x0, x1, rfl, h0, h1⟩ := decx47 (show dec47 x = some a from h); exact CW.append (law2.dec _ _ h0) (CW.append (law3.dec _ _ h1) (CW.refl [])), fun x => by show (((enc2 x.Round).ok && ((enc3 x.Replica).ok && true))) = true; simp only [show (enc2 x.Round).ok = true from law2.ok _, show (enc3 x.Replica).ok = true from law3.ok _, Bool.and_self], fun x a h => by obtain ⟨x0, x1, rfl, h0, h1⟩ := decx47 (show dec47 x = some a from h); show ((x0.ok && (x1.ok && true))) = true; simp only [law2.decok _ _ h0, law3.decok _ _ h1, Bool.and_self], fun x a h => by obtain ⟨x0, x1, rfl, h0, h1⟩ := decx47 (show dec47 x = some a from h); rfl, fun x => by show ((cel2 x.Round ++ (cel3 x.Replica ++ []))).all AV.one = true; simp only [List.all_append, List.all_nil, show (cel2 x.Round).all AV.one = true from law2.one _, show (cel3 x.Replica).all AV.one = true from law3.one _, Bool.and_self], fun x => noids_app (law2.noid x.Round) (noids_app (law3.noid x.Replica) (trivial)), fun ks h a b => by have := eqCells_append (law2.kd _ rfl a.Round b.Round) (eqCells_append (law3.kd _ rfl a.Replica b.Replica) ((show eqCells [] [] [] = some true from rfl))); cases h; exact this, (fun l s h => nomatch h), (fun s l h => nomatch h)⟩
theorem decx53 {x : TV τ} {a : GEntry} (h : dec53 x = some a) : ∃ x0 x1 x2 x3 x4 x5 x6 x7 x8 x9 x10 x11 x12 x13 x14, x = .agg [x0, x1, x2, x3, x4, x5, x6, x7, x8, x9, x10, x11, x12, x13, x14] ∧ dec3 x0 = some a.Kind ∧ dec2 x1 = some a.Session ∧ dec2 x2 = some a.Request ∧ dec43 x3 = some a.Op ∧ dec3 x4 = some a.Origin ∧ dec2 x5 = some a.Seq ∧ dec28 x6 = some a.Ops ∧ dec26 x7 = some a.Epoch ∧ dec3 x8 = some a.From ∧ dec24 x9 = some a.Vector_ ∧ dec2 x10 = some a.Clock ∧ dec51 x11 = some a.Part ∧ dec3 x12 = some a.Site ∧ dec3 x13 = some a.Sponsor ∧ dec2 x14 = some a.Length := by
  unfold dec53 at h
  split at h
  · rename_i x0 x1 x2 x3 x4 x5 x6 x7 x8 x9 x10 x11 x12 x13 x14
    split at h
    · rename_i a0 h0
      split at h
      · rename_i a1 h1
        split at h
        · rename_i a2 h2
          split at h
          · rename_i a3 h3
            split at h
            · rename_i a4 h4
              split at h
              · rename_i a5 h5
                split at h
                · rename_i a6 h6
                  split at h
                  · rename_i a7 h7
                    split at h
                    · rename_i a8 h8
                      split at h
                      · rename_i a9 h9
                        split at h
                        · rename_i a10 h10
                          split at h
                          · rename_i a11 h11
                            split at h
                            · rename_i a12 h12
                              split at h
                              · rename_i a13 h13
                                split at h
                                · rename_i a14 h14
                                  cases h
                                  exact ⟨_, _, _, _, _, _, _, _, _, _, _, _, _, _, _, rfl, h0, h1, h2, h3, h4, h5, h6, h7, h8, h9, h10, h11, h12, h13, h14⟩
                                · cases h
                              · cases h
                            · cases h
                          · cases h
                        · cases h
                      · cases h
                    · cases h
                  · cases h
                · cases h
              · cases h
            · cases h
          · cases h
        · cases h
      · cases h
    · cases h
  · cases h
theorem law53 : CodAt C 53 := ⟨fun x => by show ((enc3 x.Kind).cells C ++ ((enc2 x.Session).cells C ++ ((enc2 x.Request).cells C ++ ((enc43 x.Op).cells C ++ ((enc3 x.Origin).cells C ++ ((enc2 x.Seq).cells C ++ ((enc28 x.Ops).cells C ++ ((enc26 x.Epoch).cells C ++ ((enc3 x.From).cells C ++ ((enc24 x.Vector_).cells C ++ ((enc2 x.Clock).cells C ++ ((enc51 x.Part).cells C ++ ((enc3 x.Site).cells C ++ ((enc3 x.Sponsor).cells C ++ ((enc2 x.Length).cells C ++ []))))))))))))))) = cel53 x; unfold cel53; exact congr (congrArg (· ++ ·) (law3.cel x.Kind)) (congr (congrArg (· ++ ·) (law2.cel x.Session)) (congr (congrArg (· ++ ·) (law2.cel x.Request)) (congr (congrArg (· ++ ·) (law43.cel x.Op)) (congr (congrArg (· ++ ·) (law3.cel x.Origin)) (congr (congrArg (· ++ ·) (law2.cel x.Seq)) (congr (congrArg (· ++ ·) (law28.cel x.Ops)) (congr (congrArg (· ++ ·) (law26.cel x.Epoch)) (congr (congrArg (· ++ ·) (law3.cel x.From)) (congr (congrArg (· ++ ·) (law24.cel x.Vector_)) (congr (congrArg (· ++ ·) (law2.cel x.Clock)) (congr (congrArg (· ++ ·) (law51.cel x.Part)) (congr (congrArg (· ++ ·) (law3.cel x.Site)) (congr (congrArg (· ++ ·) (law3.cel x.Sponsor)) (congr (congrArg (· ++ ·) (law2.cel x.Length)) (rfl))))))))))))))), fun x => by show ((cel3 x.Kind ++ (cel2 x.Session ++ (cel2 x.Request ++ (cel43 x.Op ++ (cel3 x.Origin ++ (cel2 x.Seq ++ (cel28 x.Ops ++ (cel26 x.Epoch ++ (cel3 x.From ++ (cel24 x.Vector_ ++ (cel2 x.Clock ++ (cel51 x.Part ++ (cel3 x.Site ++ (cel3 x.Sponsor ++ (cel2 x.Length ++ [])))))))))))))))).length = 56; rw [List.length_append, List.length_append, List.length_append, List.length_append, List.length_append, List.length_append, List.length_append, List.length_append, List.length_append, List.length_append, List.length_append, List.length_append, List.length_append, List.length_append, List.length_append]; have e0 : (cel3 x.Kind).length = 1 := law3.len x.Kind; have e1 : (cel2 x.Session).length = 1 := law2.len x.Session; have e2 : (cel2 x.Request).length = 1 := law2.len x.Request; have e3 : (cel43 x.Op).length = 8 := law43.len x.Op; have e4 : (cel3 x.Origin).length = 1 := law3.len x.Origin; have e5 : (cel2 x.Seq).length = 1 := law2.len x.Seq; have e6 : (cel28 x.Ops).length = 1 := law28.len x.Ops; have e7 : (cel26 x.Epoch).length = 25 := law26.len x.Epoch; have e8 : (cel3 x.From).length = 1 := law3.len x.From; have e9 : (cel24 x.Vector_).length = 8 := law24.len x.Vector_; have e10 : (cel2 x.Clock).length = 1 := law2.len x.Clock; have e11 : (cel51 x.Part).length = 4 := law51.len x.Part; have e12 : (cel3 x.Site).length = 1 := law3.len x.Site; have e13 : (cel3 x.Sponsor).length = 1 := law3.len x.Sponsor; have e14 : (cel2 x.Length).length = 1 := law2.len x.Length; simp only [e0, e1, e2, e3, e4, e5, e6, e7, e8, e9, e10, e11, e12, e13, e14, List.length_nil], fun x a h => by obtain ⟨x0, x1, x2, x3, x4, x5, x6, x7, x8, x9, x10, x11, x12, x13, x14, rfl, h0, h1, h2, h3, h4, h5, h6, h7, h8, h9, h10, h11, h12, h13, h14⟩ := decx53 (show dec53 x = some a from h); exact CW.append (law3.dec _ _ h0) (CW.append (law2.dec _ _ h1) (CW.append (law2.dec _ _ h2) (CW.append (law43.dec _ _ h3) (CW.append (law3.dec _ _ h4) (CW.append (law2.dec _ _ h5) (CW.append (law28.dec _ _ h6) (CW.append (law26.dec _ _ h7) (CW.append (law3.dec _ _ h8) (CW.append (law24.dec _ _ h9) (CW.append (law2.dec _ _ h10) (CW.append (law51.dec _ _ h11) (CW.append (law3.dec _ _ h12) (CW.append (law3.dec _ _ h13) (CW.append (law2.dec _ _ h14) (CW.refl []))))))))))))))), fun x => by show (((enc3 x.Kind).ok && ((enc2 x.Session).ok && ((enc2 x.Request).ok && ((enc43 x.Op).ok && ((enc3 x.Origin).ok && ((enc2 x.Seq).ok && ((enc28 x.Ops).ok && ((enc26 x.Epoch).ok && ((enc3 x.From).ok && ((enc24 x.Vector_).ok && ((enc2 x.Clock).ok && ((enc51 x.Part).ok && ((enc3 x.Site).ok && ((enc3 x.Sponsor).ok && ((enc2 x.Length).ok && true)))))))))))))))) = true; simp only [show (enc3 x.Kind).ok = true from law3.ok _, show (enc2 x.Session).ok = true from law2.ok _, show (enc2 x.Request).ok = true from law2.ok _, show (enc43 x.Op).ok = true from law43.ok _, show (enc3 x.Origin).ok = true from law3.ok _, show (enc2 x.Seq).ok = true from law2.ok _, show (enc28 x.Ops).ok = true from law28.ok _, show (enc26 x.Epoch).ok = true from law26.ok _, show (enc3 x.From).ok = true from law3.ok _, show (enc24 x.Vector_).ok = true from law24.ok _, show (enc2 x.Clock).ok = true from law2.ok _, show (enc51 x.Part).ok = true from law51.ok _, show (enc3 x.Site).ok = true from law3.ok _, show (enc3 x.Sponsor).ok = true from law3.ok _, show (enc2 x.Length).ok = true from law2.ok _, Bool.and_self], fun x a h => by obtain ⟨x0, x1, x2, x3, x4, x5, x6, x7, x8, x9, x10, x11, x12, x13, x14, rfl, h0, h1, h2, h3, h4, h5, h6, h7, h8, h9, h10, h11, h12, h13, h14⟩ := decx53 (show dec53 x = some a from h); show ((x0.ok && (x1.ok && (x2.ok && (x3.ok && (x4.ok && (x5.ok && (x6.ok && (x7.ok && (x8.ok && (x9.ok && (x10.ok && (x11.ok && (x12.ok && (x13.ok && (x14.ok && true)))))))))))))))) = true; simp only [law3.decok _ _ h0, law2.decok _ _ h1, law2.decok _ _ h2, law43.decok _ _ h3, law3.decok _ _ h4, law2.decok _ _ h5, law28.decok _ _ h6, law26.decok _ _ h7, law3.decok _ _ h8, law24.decok _ _ h9, law2.decok _ _ h10, law51.decok _ _ h11, law3.decok _ _ h12, law3.decok _ _ h13, law2.decok _ _ h14, Bool.and_self], fun x a h => by obtain ⟨x0, x1, x2, x3, x4, x5, x6, x7, x8, x9, x10, x11, x12, x13, x14, rfl, h0, h1, h2, h3, h4, h5, h6, h7, h8, h9, h10, h11, h12, h13, h14⟩ := decx53 (show dec53 x = some a from h); rfl, fun x => by show ((cel3 x.Kind ++ (cel2 x.Session ++ (cel2 x.Request ++ (cel43 x.Op ++ (cel3 x.Origin ++ (cel2 x.Seq ++ (cel28 x.Ops ++ (cel26 x.Epoch ++ (cel3 x.From ++ (cel24 x.Vector_ ++ (cel2 x.Clock ++ (cel51 x.Part ++ (cel3 x.Site ++ (cel3 x.Sponsor ++ (cel2 x.Length ++ [])))))))))))))))).all AV.one = true; simp only [List.all_append, List.all_nil, show (cel3 x.Kind).all AV.one = true from law3.one _, show (cel2 x.Session).all AV.one = true from law2.one _, show (cel2 x.Request).all AV.one = true from law2.one _, show (cel43 x.Op).all AV.one = true from law43.one _, show (cel3 x.Origin).all AV.one = true from law3.one _, show (cel2 x.Seq).all AV.one = true from law2.one _, show (cel28 x.Ops).all AV.one = true from law28.one _, show (cel26 x.Epoch).all AV.one = true from law26.one _, show (cel3 x.From).all AV.one = true from law3.one _, show (cel24 x.Vector_).all AV.one = true from law24.one _, show (cel2 x.Clock).all AV.one = true from law2.one _, show (cel51 x.Part).all AV.one = true from law51.one _, show (cel3 x.Site).all AV.one = true from law3.one _, show (cel3 x.Sponsor).all AV.one = true from law3.one _, show (cel2 x.Length).all AV.one = true from law2.one _, Bool.and_self], fun x => noids_app (law3.noid x.Kind) (noids_app (law2.noid x.Session) (noids_app (law2.noid x.Request) (noids_app (law43.noid x.Op) (noids_app (law3.noid x.Origin) (noids_app (law2.noid x.Seq) (noids_app (law28.noid x.Ops) (noids_app (law26.noid x.Epoch) (noids_app (law3.noid x.From) (noids_app (law24.noid x.Vector_) (noids_app (law2.noid x.Clock) (noids_app (law51.noid x.Part) (noids_app (law3.noid x.Site) (noids_app (law3.noid x.Sponsor) (noids_app (law2.noid x.Length) (trivial))))))))))))))), (fun ks h => nomatch h), (fun l s h => nomatch h), (fun s l h => nomatch h)⟩
theorem decx101 {x : TV τ} {a : GSlotted} (h : dec101 x = some a) : ∃ x0 x1 x2, x = .agg [x0, x1, x2] ∧ dec2 x0 = some a.Slot ∧ dec47 x1 = some a.Ballot ∧ dec53 x2 = some a.Entry := by
  unfold dec101 at h
  split at h
  · rename_i x0 x1 x2
    split at h
    · rename_i a0 h0
      split at h
      · rename_i a1 h1
        split at h
        · rename_i a2 h2
          cases h
          exact ⟨_, _, _, rfl, h0, h1, h2⟩
        · cases h
      · cases h
    · cases h
  · cases h
theorem law101 : CodAt C 101 := ⟨fun x => by show ((enc2 x.Slot).cells C ++ ((enc47 x.Ballot).cells C ++ ((enc53 x.Entry).cells C ++ []))) = cel101 x; unfold cel101; exact congr (congrArg (· ++ ·) (law2.cel x.Slot)) (congr (congrArg (· ++ ·) (law47.cel x.Ballot)) (congr (congrArg (· ++ ·) (law53.cel x.Entry)) (rfl))), fun x => by show ((cel2 x.Slot ++ (cel47 x.Ballot ++ (cel53 x.Entry ++ [])))).length = 59; rw [List.length_append, List.length_append, List.length_append]; have e0 : (cel2 x.Slot).length = 1 := law2.len x.Slot; have e1 : (cel47 x.Ballot).length = 2 := law47.len x.Ballot; have e2 : (cel53 x.Entry).length = 56 := law53.len x.Entry; simp only [e0, e1, e2, List.length_nil], fun x a h => by obtain ⟨x0, x1, x2, rfl, h0, h1, h2⟩ := decx101 (show dec101 x = some a from h); exact CW.append (law2.dec _ _ h0) (CW.append (law47.dec _ _ h1) (CW.append (law53.dec _ _ h2) (CW.refl []))), fun x => by show (((enc2 x.Slot).ok && ((enc47 x.Ballot).ok && ((enc53 x.Entry).ok && true)))) = true; simp only [show (enc2 x.Slot).ok = true from law2.ok _, show (enc47 x.Ballot).ok = true from law47.ok _, show (enc53 x.Entry).ok = true from law53.ok _, Bool.and_self], fun x a h => by obtain ⟨x0, x1, x2, rfl, h0, h1, h2⟩ := decx101 (show dec101 x = some a from h); show ((x0.ok && (x1.ok && (x2.ok && true)))) = true; simp only [law2.decok _ _ h0, law47.decok _ _ h1, law53.decok _ _ h2, Bool.and_self], fun x a h => by obtain ⟨x0, x1, x2, rfl, h0, h1, h2⟩ := decx101 (show dec101 x = some a from h); rfl, fun x => by show ((cel2 x.Slot ++ (cel47 x.Ballot ++ (cel53 x.Entry ++ [])))).all AV.one = true; simp only [List.all_append, List.all_nil, show (cel2 x.Slot).all AV.one = true from law2.one _, show (cel47 x.Ballot).all AV.one = true from law47.one _, show (cel53 x.Entry).all AV.one = true from law53.one _, Bool.and_self], fun x => noids_app (law2.noid x.Slot) (noids_app (law47.noid x.Ballot) (noids_app (law53.noid x.Entry) (trivial))), (fun ks h => nomatch h), (fun l s h => nomatch h), (fun s l h => nomatch h)⟩
theorem law48 : CodAt C 48 := ⟨fun x => rfl, fun x => rfl, fun x a h => (dSl_cw (C := C) (show dSl 101 x = some a from h)).1, fun x => rfl, fun x a h => (dSl_cw (C := C) (show dSl 101 x = some a from h)).2.1, fun x a h => (dSl_cw (C := C) (show dSl 101 x = some a from h)).2.2, fun a => rfl, fun a => noids_one (NoId.asl fun cs hc => by obtain ⟨y, _, rfl⟩ := List.mem_map.1 hc; exact law101.noid y), (fun ks h => nomatch h), (fun l s h => nomatch h), (fun s l h => nomatch h)⟩
theorem decx50 {x : TV τ} {a : GPart} (h : dec50 x = some a) : ∃ x0 x1 x2 x3, x = .agg [x0, x1, x2, x3] ∧ dec2 x0 = some a.Snap ∧ dec3 x1 = some a.Index ∧ dec3 x2 = some a.Many ∧ dec49 x3 = some a.Data := by
  unfold dec50 at h
  split at h
  · rename_i x0 x1 x2 x3
    split at h
    · rename_i a0 h0
      split at h
      · rename_i a1 h1
        split at h
        · rename_i a2 h2
          split at h
          · rename_i a3 h3
            cases h
            exact ⟨_, _, _, _, rfl, h0, h1, h2, h3⟩
          · cases h
        · cases h
      · cases h
    · cases h
  · cases h
theorem law50 : CodAt C 50 := ⟨fun x => by show ((enc2 x.Snap).cells C ++ ((enc3 x.Index).cells C ++ ((enc3 x.Many).cells C ++ ((enc49 x.Data).cells C ++ [])))) = cel50 x; unfold cel50; exact congr (congrArg (· ++ ·) (law2.cel x.Snap)) (congr (congrArg (· ++ ·) (law3.cel x.Index)) (congr (congrArg (· ++ ·) (law3.cel x.Many)) (congr (congrArg (· ++ ·) (law49.cel x.Data)) (rfl)))), fun x => by show ((cel2 x.Snap ++ (cel3 x.Index ++ (cel3 x.Many ++ (cel49 x.Data ++ []))))).length = 4; rw [List.length_append, List.length_append, List.length_append, List.length_append]; have e0 : (cel2 x.Snap).length = 1 := law2.len x.Snap; have e1 : (cel3 x.Index).length = 1 := law3.len x.Index; have e2 : (cel3 x.Many).length = 1 := law3.len x.Many; have e3 : (cel49 x.Data).length = 1 := law49.len x.Data; simp only [e0, e1, e2, e3, List.length_nil], fun x a h => by obtain ⟨x0, x1, x2, x3, rfl, h0, h1, h2, h3⟩ := decx50 (show dec50 x = some a from h); exact CW.append (law2.dec _ _ h0) (CW.append (law3.dec _ _ h1) (CW.append (law3.dec _ _ h2) (CW.append (law49.dec _ _ h3) (CW.refl [])))), fun x => by show (((enc2 x.Snap).ok && ((enc3 x.Index).ok && ((enc3 x.Many).ok && ((enc49 x.Data).ok && true))))) = true; simp only [show (enc2 x.Snap).ok = true from law2.ok _, show (enc3 x.Index).ok = true from law3.ok _, show (enc3 x.Many).ok = true from law3.ok _, show (enc49 x.Data).ok = true from law49.ok _, Bool.and_self], fun x a h => by obtain ⟨x0, x1, x2, x3, rfl, h0, h1, h2, h3⟩ := decx50 (show dec50 x = some a from h); show ((x0.ok && (x1.ok && (x2.ok && (x3.ok && true))))) = true; simp only [law2.decok _ _ h0, law3.decok _ _ h1, law3.decok _ _ h2, law49.decok _ _ h3, Bool.and_self], fun x a h => by obtain ⟨x0, x1, x2, x3, rfl, h0, h1, h2, h3⟩ := decx50 (show dec50 x = some a from h); rfl, fun x => by show ((cel2 x.Snap ++ (cel3 x.Index ++ (cel3 x.Many ++ (cel49 x.Data ++ []))))).all AV.one = true; simp only [List.all_append, List.all_nil, show (cel2 x.Snap).all AV.one = true from law2.one _, show (cel3 x.Index).all AV.one = true from law3.one _, show (cel3 x.Many).all AV.one = true from law3.one _, show (cel49 x.Data).all AV.one = true from law49.one _, Bool.and_self], fun x => noids_app (law2.noid x.Snap) (noids_app (law3.noid x.Index) (noids_app (law3.noid x.Many) (noids_app (law49.noid x.Data) (trivial)))), (fun ks h => nomatch h), (fun l s h => nomatch h), (fun s l h => nomatch h)⟩
theorem decx52 {x : TV τ} {a : GEntry} (h : dec52 x = some a) : ∃ x0 x1 x2 x3 x4 x5 x6 x7 x8 x9 x10 x11 x12 x13 x14, x = .agg [x0, x1, x2, x3, x4, x5, x6, x7, x8, x9, x10, x11, x12, x13, x14] ∧ dec3 x0 = some a.Kind ∧ dec2 x1 = some a.Session ∧ dec2 x2 = some a.Request ∧ dec43 x3 = some a.Op ∧ dec3 x4 = some a.Origin ∧ dec2 x5 = some a.Seq ∧ dec28 x6 = some a.Ops ∧ dec26 x7 = some a.Epoch ∧ dec3 x8 = some a.From ∧ dec24 x9 = some a.Vector_ ∧ dec2 x10 = some a.Clock ∧ dec51 x11 = some a.Part ∧ dec3 x12 = some a.Site ∧ dec3 x13 = some a.Sponsor ∧ dec2 x14 = some a.Length := by
  unfold dec52 at h
  split at h
  · rename_i x0 x1 x2 x3 x4 x5 x6 x7 x8 x9 x10 x11 x12 x13 x14
    split at h
    · rename_i a0 h0
      split at h
      · rename_i a1 h1
        split at h
        · rename_i a2 h2
          split at h
          · rename_i a3 h3
            split at h
            · rename_i a4 h4
              split at h
              · rename_i a5 h5
                split at h
                · rename_i a6 h6
                  split at h
                  · rename_i a7 h7
                    split at h
                    · rename_i a8 h8
                      split at h
                      · rename_i a9 h9
                        split at h
                        · rename_i a10 h10
                          split at h
                          · rename_i a11 h11
                            split at h
                            · rename_i a12 h12
                              split at h
                              · rename_i a13 h13
                                split at h
                                · rename_i a14 h14
                                  cases h
                                  exact ⟨_, _, _, _, _, _, _, _, _, _, _, _, _, _, _, rfl, h0, h1, h2, h3, h4, h5, h6, h7, h8, h9, h10, h11, h12, h13, h14⟩
                                · cases h
                              · cases h
                            · cases h
                          · cases h
                        · cases h
                      · cases h
                    · cases h
                  · cases h
                · cases h
              · cases h
            · cases h
          · cases h
        · cases h
      · cases h
    · cases h
  · cases h
theorem law52 : CodAt C 52 := ⟨fun x => by show ((enc3 x.Kind).cells C ++ ((enc2 x.Session).cells C ++ ((enc2 x.Request).cells C ++ ((enc43 x.Op).cells C ++ ((enc3 x.Origin).cells C ++ ((enc2 x.Seq).cells C ++ ((enc28 x.Ops).cells C ++ ((enc26 x.Epoch).cells C ++ ((enc3 x.From).cells C ++ ((enc24 x.Vector_).cells C ++ ((enc2 x.Clock).cells C ++ ((enc51 x.Part).cells C ++ ((enc3 x.Site).cells C ++ ((enc3 x.Sponsor).cells C ++ ((enc2 x.Length).cells C ++ []))))))))))))))) = cel52 x; unfold cel52; exact congr (congrArg (· ++ ·) (law3.cel x.Kind)) (congr (congrArg (· ++ ·) (law2.cel x.Session)) (congr (congrArg (· ++ ·) (law2.cel x.Request)) (congr (congrArg (· ++ ·) (law43.cel x.Op)) (congr (congrArg (· ++ ·) (law3.cel x.Origin)) (congr (congrArg (· ++ ·) (law2.cel x.Seq)) (congr (congrArg (· ++ ·) (law28.cel x.Ops)) (congr (congrArg (· ++ ·) (law26.cel x.Epoch)) (congr (congrArg (· ++ ·) (law3.cel x.From)) (congr (congrArg (· ++ ·) (law24.cel x.Vector_)) (congr (congrArg (· ++ ·) (law2.cel x.Clock)) (congr (congrArg (· ++ ·) (law51.cel x.Part)) (congr (congrArg (· ++ ·) (law3.cel x.Site)) (congr (congrArg (· ++ ·) (law3.cel x.Sponsor)) (congr (congrArg (· ++ ·) (law2.cel x.Length)) (rfl))))))))))))))), fun x => by show ((cel3 x.Kind ++ (cel2 x.Session ++ (cel2 x.Request ++ (cel43 x.Op ++ (cel3 x.Origin ++ (cel2 x.Seq ++ (cel28 x.Ops ++ (cel26 x.Epoch ++ (cel3 x.From ++ (cel24 x.Vector_ ++ (cel2 x.Clock ++ (cel51 x.Part ++ (cel3 x.Site ++ (cel3 x.Sponsor ++ (cel2 x.Length ++ [])))))))))))))))).length = 56; rw [List.length_append, List.length_append, List.length_append, List.length_append, List.length_append, List.length_append, List.length_append, List.length_append, List.length_append, List.length_append, List.length_append, List.length_append, List.length_append, List.length_append, List.length_append]; have e0 : (cel3 x.Kind).length = 1 := law3.len x.Kind; have e1 : (cel2 x.Session).length = 1 := law2.len x.Session; have e2 : (cel2 x.Request).length = 1 := law2.len x.Request; have e3 : (cel43 x.Op).length = 8 := law43.len x.Op; have e4 : (cel3 x.Origin).length = 1 := law3.len x.Origin; have e5 : (cel2 x.Seq).length = 1 := law2.len x.Seq; have e6 : (cel28 x.Ops).length = 1 := law28.len x.Ops; have e7 : (cel26 x.Epoch).length = 25 := law26.len x.Epoch; have e8 : (cel3 x.From).length = 1 := law3.len x.From; have e9 : (cel24 x.Vector_).length = 8 := law24.len x.Vector_; have e10 : (cel2 x.Clock).length = 1 := law2.len x.Clock; have e11 : (cel51 x.Part).length = 4 := law51.len x.Part; have e12 : (cel3 x.Site).length = 1 := law3.len x.Site; have e13 : (cel3 x.Sponsor).length = 1 := law3.len x.Sponsor; have e14 : (cel2 x.Length).length = 1 := law2.len x.Length; simp only [e0, e1, e2, e3, e4, e5, e6, e7, e8, e9, e10, e11, e12, e13, e14, List.length_nil], fun x a h => by obtain ⟨x0, x1, x2, x3, x4, x5, x6, x7, x8, x9, x10, x11, x12, x13, x14, rfl, h0, h1, h2, h3, h4, h5, h6, h7, h8, h9, h10, h11, h12, h13, h14⟩ := decx52 (show dec52 x = some a from h); exact CW.append (law3.dec _ _ h0) (CW.append (law2.dec _ _ h1) (CW.append (law2.dec _ _ h2) (CW.append (law43.dec _ _ h3) (CW.append (law3.dec _ _ h4) (CW.append (law2.dec _ _ h5) (CW.append (law28.dec _ _ h6) (CW.append (law26.dec _ _ h7) (CW.append (law3.dec _ _ h8) (CW.append (law24.dec _ _ h9) (CW.append (law2.dec _ _ h10) (CW.append (law51.dec _ _ h11) (CW.append (law3.dec _ _ h12) (CW.append (law3.dec _ _ h13) (CW.append (law2.dec _ _ h14) (CW.refl []))))))))))))))), fun x => by show (((enc3 x.Kind).ok && ((enc2 x.Session).ok && ((enc2 x.Request).ok && ((enc43 x.Op).ok && ((enc3 x.Origin).ok && ((enc2 x.Seq).ok && ((enc28 x.Ops).ok && ((enc26 x.Epoch).ok && ((enc3 x.From).ok && ((enc24 x.Vector_).ok && ((enc2 x.Clock).ok && ((enc51 x.Part).ok && ((enc3 x.Site).ok && ((enc3 x.Sponsor).ok && ((enc2 x.Length).ok && true)))))))))))))))) = true; simp only [show (enc3 x.Kind).ok = true from law3.ok _, show (enc2 x.Session).ok = true from law2.ok _, show (enc2 x.Request).ok = true from law2.ok _, show (enc43 x.Op).ok = true from law43.ok _, show (enc3 x.Origin).ok = true from law3.ok _, show (enc2 x.Seq).ok = true from law2.ok _, show (enc28 x.Ops).ok = true from law28.ok _, show (enc26 x.Epoch).ok = true from law26.ok _, show (enc3 x.From).ok = true from law3.ok _, show (enc24 x.Vector_).ok = true from law24.ok _, show (enc2 x.Clock).ok = true from law2.ok _, show (enc51 x.Part).ok = true from law51.ok _, show (enc3 x.Site).ok = true from law3.ok _, show (enc3 x.Sponsor).ok = true from law3.ok _, show (enc2 x.Length).ok = true from law2.ok _, Bool.and_self], fun x a h => by obtain ⟨x0, x1, x2, x3, x4, x5, x6, x7, x8, x9, x10, x11, x12, x13, x14, rfl, h0, h1, h2, h3, h4, h5, h6, h7, h8, h9, h10, h11, h12, h13, h14⟩ := decx52 (show dec52 x = some a from h); show ((x0.ok && (x1.ok && (x2.ok && (x3.ok && (x4.ok && (x5.ok && (x6.ok && (x7.ok && (x8.ok && (x9.ok && (x10.ok && (x11.ok && (x12.ok && (x13.ok && (x14.ok && true)))))))))))))))) = true; simp only [law3.decok _ _ h0, law2.decok _ _ h1, law2.decok _ _ h2, law43.decok _ _ h3, law3.decok _ _ h4, law2.decok _ _ h5, law28.decok _ _ h6, law26.decok _ _ h7, law3.decok _ _ h8, law24.decok _ _ h9, law2.decok _ _ h10, law51.decok _ _ h11, law3.decok _ _ h12, law3.decok _ _ h13, law2.decok _ _ h14, Bool.and_self], fun x a h => by obtain ⟨x0, x1, x2, x3, x4, x5, x6, x7, x8, x9, x10, x11, x12, x13, x14, rfl, h0, h1, h2, h3, h4, h5, h6, h7, h8, h9, h10, h11, h12, h13, h14⟩ := decx52 (show dec52 x = some a from h); rfl, fun x => by show ((cel3 x.Kind ++ (cel2 x.Session ++ (cel2 x.Request ++ (cel43 x.Op ++ (cel3 x.Origin ++ (cel2 x.Seq ++ (cel28 x.Ops ++ (cel26 x.Epoch ++ (cel3 x.From ++ (cel24 x.Vector_ ++ (cel2 x.Clock ++ (cel51 x.Part ++ (cel3 x.Site ++ (cel3 x.Sponsor ++ (cel2 x.Length ++ [])))))))))))))))).all AV.one = true; simp only [List.all_append, List.all_nil, show (cel3 x.Kind).all AV.one = true from law3.one _, show (cel2 x.Session).all AV.one = true from law2.one _, show (cel2 x.Request).all AV.one = true from law2.one _, show (cel43 x.Op).all AV.one = true from law43.one _, show (cel3 x.Origin).all AV.one = true from law3.one _, show (cel2 x.Seq).all AV.one = true from law2.one _, show (cel28 x.Ops).all AV.one = true from law28.one _, show (cel26 x.Epoch).all AV.one = true from law26.one _, show (cel3 x.From).all AV.one = true from law3.one _, show (cel24 x.Vector_).all AV.one = true from law24.one _, show (cel2 x.Clock).all AV.one = true from law2.one _, show (cel51 x.Part).all AV.one = true from law51.one _, show (cel3 x.Site).all AV.one = true from law3.one _, show (cel3 x.Sponsor).all AV.one = true from law3.one _, show (cel2 x.Length).all AV.one = true from law2.one _, Bool.and_self], fun x => noids_app (law3.noid x.Kind) (noids_app (law2.noid x.Session) (noids_app (law2.noid x.Request) (noids_app (law43.noid x.Op) (noids_app (law3.noid x.Origin) (noids_app (law2.noid x.Seq) (noids_app (law28.noid x.Ops) (noids_app (law26.noid x.Epoch) (noids_app (law3.noid x.From) (noids_app (law24.noid x.Vector_) (noids_app (law2.noid x.Clock) (noids_app (law51.noid x.Part) (noids_app (law3.noid x.Site) (noids_app (law3.noid x.Sponsor) (noids_app (law2.noid x.Length) (trivial))))))))))))))), (fun ks h => nomatch h), (fun l s h => nomatch h), (fun s l h => nomatch h)⟩
theorem decx54 {x : TV τ} {a : GMsg} (h : dec54 x = some a) : ∃ x0 x1 x2 x3 x4 x5 x6 x7 x8 x9 x10 x11 x12 x13, x = .agg [x0, x1, x2, x3, x4, x5, x6, x7, x8, x9, x10, x11, x12, x13] ∧ dec3 x0 = some a.Kind ∧ dec45 x1 = some a.From ∧ dec45 x2 = some a.To ∧ dec47 x3 = some a.Ballot ∧ dec2 x4 = some a.Slot ∧ dec48 x5 = some a.List_ ∧ dec53 x6 = some a.Entry ∧ dec2 x7 = some a.Number ∧ dec24 x8 = some a.Vector_ ∧ dec2 x9 = some a.Clock ∧ dec3 x10 = some a.Origin ∧ dec28 x11 = some a.Ops ∧ dec26 x12 = some a.Epoch ∧ dec51 x13 = some a.Part := by
  unfold dec54 at h
  split at h
  · rename_i x0 x1 x2 x3 x4 x5 x6 x7 x8 x9 x10 x11 x12 x13
    split at h
    · rename_i a0 h0
      split at h
      · rename_i a1 h1
        split at h
        · rename_i a2 h2
          split at h
          · rename_i a3 h3
            split at h
            · rename_i a4 h4
              split at h
              · rename_i a5 h5
                split at h
                · rename_i a6 h6
                  split at h
                  · rename_i a7 h7
                    split at h
                    · rename_i a8 h8
                      split at h
                      · rename_i a9 h9
                        split at h
                        · rename_i a10 h10
                          split at h
                          · rename_i a11 h11
                            split at h
                            · rename_i a12 h12
                              split at h
                              · rename_i a13 h13
                                cases h
                                exact ⟨_, _, _, _, _, _, _, _, _, _, _, _, _, _, rfl, h0, h1, h2, h3, h4, h5, h6, h7, h8, h9, h10, h11, h12, h13⟩
                              · cases h
                            · cases h
                          · cases h
                        · cases h
                      · cases h
                    · cases h
                  · cases h
                · cases h
              · cases h
            · cases h
          · cases h
        · cases h
      · cases h
    · cases h
  · cases h
theorem law54 : CodAt C 54 := ⟨fun x => by show ((enc3 x.Kind).cells C ++ ((enc45 x.From).cells C ++ ((enc45 x.To).cells C ++ ((enc47 x.Ballot).cells C ++ ((enc2 x.Slot).cells C ++ ((enc48 x.List_).cells C ++ ((enc53 x.Entry).cells C ++ ((enc2 x.Number).cells C ++ ((enc24 x.Vector_).cells C ++ ((enc2 x.Clock).cells C ++ ((enc3 x.Origin).cells C ++ ((enc28 x.Ops).cells C ++ ((enc26 x.Epoch).cells C ++ ((enc51 x.Part).cells C ++ [])))))))))))))) = cel54 x; unfold cel54; exact congr (congrArg (· ++ ·) (law3.cel x.Kind)) (congr (congrArg (· ++ ·) (law45.cel x.From)) (congr (congrArg (· ++ ·) (law45.cel x.To)) (congr (congrArg (· ++ ·) (law47.cel x.Ballot)) (congr (congrArg (· ++ ·) (law2.cel x.Slot)) (congr (congrArg (· ++ ·) (law48.cel x.List_)) (congr (congrArg (· ++ ·) (law53.cel x.Entry)) (congr (congrArg (· ++ ·) (law2.cel x.Number)) (congr (congrArg (· ++ ·) (law24.cel x.Vector_)) (congr (congrArg (· ++ ·) (law2.cel x.Clock)) (congr (congrArg (· ++ ·) (law3.cel x.Origin)) (congr (congrArg (· ++ ·) (law28.cel x.Ops)) (congr (congrArg (· ++ ·) (law26.cel x.Epoch)) (congr (congrArg (· ++ ·) (law51.cel x.Part)) (rfl)))))))))))))), fun x => by show ((cel3 x.Kind ++ (cel45 x.From ++ (cel45 x.To ++ (cel47 x.Ballot ++ (cel2 x.Slot ++ (cel48 x.List_ ++ (cel53 x.Entry ++ (cel2 x.Number ++ (cel24 x.Vector_ ++ (cel2 x.Clock ++ (cel3 x.Origin ++ (cel28 x.Ops ++ (cel26 x.Epoch ++ (cel51 x.Part ++ []))))))))))))))).length = 106; rw [List.length_append, List.length_append, List.length_append, List.length_append, List.length_append, List.length_append, List.length_append, List.length_append, List.length_append, List.length_append, List.length_append, List.length_append, List.length_append, List.length_append]; have e0 : (cel3 x.Kind).length = 1 := law3.len x.Kind; have e1 : (cel45 x.From).length = 2 := law45.len x.From; have e2 : (cel45 x.To).length = 2 := law45.len x.To; have e3 : (cel47 x.Ballot).length = 2 := law47.len x.Ballot; have e4 : (cel2 x.Slot).length = 1 := law2.len x.Slot; have e5 : (cel48 x.List_).length = 1 := law48.len x.List_; have e6 : (cel53 x.Entry).length = 56 := law53.len x.Entry; have e7 : (cel2 x.Number).length = 1 := law2.len x.Number; have e8 : (cel24 x.Vector_).length = 8 := law24.len x.Vector_; have e9 : (cel2 x.Clock).length = 1 := law2.len x.Clock; have e10 : (cel3 x.Origin).length = 1 := law3.len x.Origin; have e11 : (cel28 x.Ops).length = 1 := law28.len x.Ops; have e12 : (cel26 x.Epoch).length = 25 := law26.len x.Epoch; have e13 : (cel51 x.Part).length = 4 := law51.len x.Part; simp only [e0, e1, e2, e3, e4, e5, e6, e7, e8, e9, e10, e11, e12, e13, List.length_nil], fun x a h => by obtain ⟨x0, x1, x2, x3, x4, x5, x6, x7, x8, x9, x10, x11, x12, x13, rfl, h0, h1, h2, h3, h4, h5, h6, h7, h8, h9, h10, h11, h12, h13⟩ := decx54 (show dec54 x = some a from h); exact CW.append (law3.dec _ _ h0) (CW.append (law45.dec _ _ h1) (CW.append (law45.dec _ _ h2) (CW.append (law47.dec _ _ h3) (CW.append (law2.dec _ _ h4) (CW.append (law48.dec _ _ h5) (CW.append (law53.dec _ _ h6) (CW.append (law2.dec _ _ h7) (CW.append (law24.dec _ _ h8) (CW.append (law2.dec _ _ h9) (CW.append (law3.dec _ _ h10) (CW.append (law28.dec _ _ h11) (CW.append (law26.dec _ _ h12) (CW.append (law51.dec _ _ h13) (CW.refl [])))))))))))))), fun x => by show (((enc3 x.Kind).ok && ((enc45 x.From).ok && ((enc45 x.To).ok && ((enc47 x.Ballot).ok && ((enc2 x.Slot).ok && ((enc48 x.List_).ok && ((enc53 x.Entry).ok && ((enc2 x.Number).ok && ((enc24 x.Vector_).ok && ((enc2 x.Clock).ok && ((enc3 x.Origin).ok && ((enc28 x.Ops).ok && ((enc26 x.Epoch).ok && ((enc51 x.Part).ok && true))))))))))))))) = true; simp only [show (enc3 x.Kind).ok = true from law3.ok _, show (enc45 x.From).ok = true from law45.ok _, show (enc45 x.To).ok = true from law45.ok _, show (enc47 x.Ballot).ok = true from law47.ok _, show (enc2 x.Slot).ok = true from law2.ok _, show (enc48 x.List_).ok = true from law48.ok _, show (enc53 x.Entry).ok = true from law53.ok _, show (enc2 x.Number).ok = true from law2.ok _, show (enc24 x.Vector_).ok = true from law24.ok _, show (enc2 x.Clock).ok = true from law2.ok _, show (enc3 x.Origin).ok = true from law3.ok _, show (enc28 x.Ops).ok = true from law28.ok _, show (enc26 x.Epoch).ok = true from law26.ok _, show (enc51 x.Part).ok = true from law51.ok _, Bool.and_self], fun x a h => by obtain ⟨x0, x1, x2, x3, x4, x5, x6, x7, x8, x9, x10, x11, x12, x13, rfl, h0, h1, h2, h3, h4, h5, h6, h7, h8, h9, h10, h11, h12, h13⟩ := decx54 (show dec54 x = some a from h); show ((x0.ok && (x1.ok && (x2.ok && (x3.ok && (x4.ok && (x5.ok && (x6.ok && (x7.ok && (x8.ok && (x9.ok && (x10.ok && (x11.ok && (x12.ok && (x13.ok && true))))))))))))))) = true; simp only [law3.decok _ _ h0, law45.decok _ _ h1, law45.decok _ _ h2, law47.decok _ _ h3, law2.decok _ _ h4, law48.decok _ _ h5, law53.decok _ _ h6, law2.decok _ _ h7, law24.decok _ _ h8, law2.decok _ _ h9, law3.decok _ _ h10, law28.decok _ _ h11, law26.decok _ _ h12, law51.decok _ _ h13, Bool.and_self], fun x a h => by obtain ⟨x0, x1, x2, x3, x4, x5, x6, x7, x8, x9, x10, x11, x12, x13, rfl, h0, h1, h2, h3, h4, h5, h6, h7, h8, h9, h10, h11, h12, h13⟩ := decx54 (show dec54 x = some a from h); rfl, fun x => by show ((cel3 x.Kind ++ (cel45 x.From ++ (cel45 x.To ++ (cel47 x.Ballot ++ (cel2 x.Slot ++ (cel48 x.List_ ++ (cel53 x.Entry ++ (cel2 x.Number ++ (cel24 x.Vector_ ++ (cel2 x.Clock ++ (cel3 x.Origin ++ (cel28 x.Ops ++ (cel26 x.Epoch ++ (cel51 x.Part ++ []))))))))))))))).all AV.one = true; simp only [List.all_append, List.all_nil, show (cel3 x.Kind).all AV.one = true from law3.one _, show (cel45 x.From).all AV.one = true from law45.one _, show (cel45 x.To).all AV.one = true from law45.one _, show (cel47 x.Ballot).all AV.one = true from law47.one _, show (cel2 x.Slot).all AV.one = true from law2.one _, show (cel48 x.List_).all AV.one = true from law48.one _, show (cel53 x.Entry).all AV.one = true from law53.one _, show (cel2 x.Number).all AV.one = true from law2.one _, show (cel24 x.Vector_).all AV.one = true from law24.one _, show (cel2 x.Clock).all AV.one = true from law2.one _, show (cel3 x.Origin).all AV.one = true from law3.one _, show (cel28 x.Ops).all AV.one = true from law28.one _, show (cel26 x.Epoch).all AV.one = true from law26.one _, show (cel51 x.Part).all AV.one = true from law51.one _, Bool.and_self], fun x => noids_app (law3.noid x.Kind) (noids_app (law45.noid x.From) (noids_app (law45.noid x.To) (noids_app (law47.noid x.Ballot) (noids_app (law2.noid x.Slot) (noids_app (law48.noid x.List_) (noids_app (law53.noid x.Entry) (noids_app (law2.noid x.Number) (noids_app (law24.noid x.Vector_) (noids_app (law2.noid x.Clock) (noids_app (law3.noid x.Origin) (noids_app (law28.noid x.Ops) (noids_app (law26.noid x.Epoch) (noids_app (law51.noid x.Part) (trivial)))))))))))))), (fun ks h => nomatch h), (fun l s h => nomatch h), (fun s l h => nomatch h)⟩
theorem decx55 {x : TV τ} {a : GMsg} (h : dec55 x = some a) : ∃ x0 x1 x2 x3 x4 x5 x6 x7 x8 x9 x10 x11 x12 x13, x = .agg [x0, x1, x2, x3, x4, x5, x6, x7, x8, x9, x10, x11, x12, x13] ∧ dec3 x0 = some a.Kind ∧ dec45 x1 = some a.From ∧ dec45 x2 = some a.To ∧ dec47 x3 = some a.Ballot ∧ dec2 x4 = some a.Slot ∧ dec48 x5 = some a.List_ ∧ dec53 x6 = some a.Entry ∧ dec2 x7 = some a.Number ∧ dec24 x8 = some a.Vector_ ∧ dec2 x9 = some a.Clock ∧ dec3 x10 = some a.Origin ∧ dec28 x11 = some a.Ops ∧ dec26 x12 = some a.Epoch ∧ dec51 x13 = some a.Part := by
  unfold dec55 at h
  split at h
  · rename_i x0 x1 x2 x3 x4 x5 x6 x7 x8 x9 x10 x11 x12 x13
    split at h
    · rename_i a0 h0
      split at h
      · rename_i a1 h1
        split at h
        · rename_i a2 h2
          split at h
          · rename_i a3 h3
            split at h
            · rename_i a4 h4
              split at h
              · rename_i a5 h5
                split at h
                · rename_i a6 h6
                  split at h
                  · rename_i a7 h7
                    split at h
                    · rename_i a8 h8
                      split at h
                      · rename_i a9 h9
                        split at h
                        · rename_i a10 h10
                          split at h
                          · rename_i a11 h11
                            split at h
                            · rename_i a12 h12
                              split at h
                              · rename_i a13 h13
                                cases h
                                exact ⟨_, _, _, _, _, _, _, _, _, _, _, _, _, _, rfl, h0, h1, h2, h3, h4, h5, h6, h7, h8, h9, h10, h11, h12, h13⟩
                              · cases h
                            · cases h
                          · cases h
                        · cases h
                      · cases h
                    · cases h
                  · cases h
                · cases h
              · cases h
            · cases h
          · cases h
        · cases h
      · cases h
    · cases h
  · cases h
theorem law55 : CodAt C 55 := ⟨fun x => by show ((enc3 x.Kind).cells C ++ ((enc45 x.From).cells C ++ ((enc45 x.To).cells C ++ ((enc47 x.Ballot).cells C ++ ((enc2 x.Slot).cells C ++ ((enc48 x.List_).cells C ++ ((enc53 x.Entry).cells C ++ ((enc2 x.Number).cells C ++ ((enc24 x.Vector_).cells C ++ ((enc2 x.Clock).cells C ++ ((enc3 x.Origin).cells C ++ ((enc28 x.Ops).cells C ++ ((enc26 x.Epoch).cells C ++ ((enc51 x.Part).cells C ++ [])))))))))))))) = cel55 x; unfold cel55; exact congr (congrArg (· ++ ·) (law3.cel x.Kind)) (congr (congrArg (· ++ ·) (law45.cel x.From)) (congr (congrArg (· ++ ·) (law45.cel x.To)) (congr (congrArg (· ++ ·) (law47.cel x.Ballot)) (congr (congrArg (· ++ ·) (law2.cel x.Slot)) (congr (congrArg (· ++ ·) (law48.cel x.List_)) (congr (congrArg (· ++ ·) (law53.cel x.Entry)) (congr (congrArg (· ++ ·) (law2.cel x.Number)) (congr (congrArg (· ++ ·) (law24.cel x.Vector_)) (congr (congrArg (· ++ ·) (law2.cel x.Clock)) (congr (congrArg (· ++ ·) (law3.cel x.Origin)) (congr (congrArg (· ++ ·) (law28.cel x.Ops)) (congr (congrArg (· ++ ·) (law26.cel x.Epoch)) (congr (congrArg (· ++ ·) (law51.cel x.Part)) (rfl)))))))))))))), fun x => by show ((cel3 x.Kind ++ (cel45 x.From ++ (cel45 x.To ++ (cel47 x.Ballot ++ (cel2 x.Slot ++ (cel48 x.List_ ++ (cel53 x.Entry ++ (cel2 x.Number ++ (cel24 x.Vector_ ++ (cel2 x.Clock ++ (cel3 x.Origin ++ (cel28 x.Ops ++ (cel26 x.Epoch ++ (cel51 x.Part ++ []))))))))))))))).length = 106; rw [List.length_append, List.length_append, List.length_append, List.length_append, List.length_append, List.length_append, List.length_append, List.length_append, List.length_append, List.length_append, List.length_append, List.length_append, List.length_append, List.length_append]; have e0 : (cel3 x.Kind).length = 1 := law3.len x.Kind; have e1 : (cel45 x.From).length = 2 := law45.len x.From; have e2 : (cel45 x.To).length = 2 := law45.len x.To; have e3 : (cel47 x.Ballot).length = 2 := law47.len x.Ballot; have e4 : (cel2 x.Slot).length = 1 := law2.len x.Slot; have e5 : (cel48 x.List_).length = 1 := law48.len x.List_; have e6 : (cel53 x.Entry).length = 56 := law53.len x.Entry; have e7 : (cel2 x.Number).length = 1 := law2.len x.Number; have e8 : (cel24 x.Vector_).length = 8 := law24.len x.Vector_; have e9 : (cel2 x.Clock).length = 1 := law2.len x.Clock; have e10 : (cel3 x.Origin).length = 1 := law3.len x.Origin; have e11 : (cel28 x.Ops).length = 1 := law28.len x.Ops; have e12 : (cel26 x.Epoch).length = 25 := law26.len x.Epoch; have e13 : (cel51 x.Part).length = 4 := law51.len x.Part; simp only [e0, e1, e2, e3, e4, e5, e6, e7, e8, e9, e10, e11, e12, e13, List.length_nil], fun x a h => by obtain ⟨x0, x1, x2, x3, x4, x5, x6, x7, x8, x9, x10, x11, x12, x13, rfl, h0, h1, h2, h3, h4, h5, h6, h7, h8, h9, h10, h11, h12, h13⟩ := decx55 (show dec55 x = some a from h); exact CW.append (law3.dec _ _ h0) (CW.append (law45.dec _ _ h1) (CW.append (law45.dec _ _ h2) (CW.append (law47.dec _ _ h3) (CW.append (law2.dec _ _ h4) (CW.append (law48.dec _ _ h5) (CW.append (law53.dec _ _ h6) (CW.append (law2.dec _ _ h7) (CW.append (law24.dec _ _ h8) (CW.append (law2.dec _ _ h9) (CW.append (law3.dec _ _ h10) (CW.append (law28.dec _ _ h11) (CW.append (law26.dec _ _ h12) (CW.append (law51.dec _ _ h13) (CW.refl [])))))))))))))), fun x => by show (((enc3 x.Kind).ok && ((enc45 x.From).ok && ((enc45 x.To).ok && ((enc47 x.Ballot).ok && ((enc2 x.Slot).ok && ((enc48 x.List_).ok && ((enc53 x.Entry).ok && ((enc2 x.Number).ok && ((enc24 x.Vector_).ok && ((enc2 x.Clock).ok && ((enc3 x.Origin).ok && ((enc28 x.Ops).ok && ((enc26 x.Epoch).ok && ((enc51 x.Part).ok && true))))))))))))))) = true; simp only [show (enc3 x.Kind).ok = true from law3.ok _, show (enc45 x.From).ok = true from law45.ok _, show (enc45 x.To).ok = true from law45.ok _, show (enc47 x.Ballot).ok = true from law47.ok _, show (enc2 x.Slot).ok = true from law2.ok _, show (enc48 x.List_).ok = true from law48.ok _, show (enc53 x.Entry).ok = true from law53.ok _, show (enc2 x.Number).ok = true from law2.ok _, show (enc24 x.Vector_).ok = true from law24.ok _, show (enc2 x.Clock).ok = true from law2.ok _, show (enc3 x.Origin).ok = true from law3.ok _, show (enc28 x.Ops).ok = true from law28.ok _, show (enc26 x.Epoch).ok = true from law26.ok _, show (enc51 x.Part).ok = true from law51.ok _, Bool.and_self], fun x a h => by obtain ⟨x0, x1, x2, x3, x4, x5, x6, x7, x8, x9, x10, x11, x12, x13, rfl, h0, h1, h2, h3, h4, h5, h6, h7, h8, h9, h10, h11, h12, h13⟩ := decx55 (show dec55 x = some a from h); show ((x0.ok && (x1.ok && (x2.ok && (x3.ok && (x4.ok && (x5.ok && (x6.ok && (x7.ok && (x8.ok && (x9.ok && (x10.ok && (x11.ok && (x12.ok && (x13.ok && true))))))))))))))) = true; simp only [law3.decok _ _ h0, law45.decok _ _ h1, law45.decok _ _ h2, law47.decok _ _ h3, law2.decok _ _ h4, law48.decok _ _ h5, law53.decok _ _ h6, law2.decok _ _ h7, law24.decok _ _ h8, law2.decok _ _ h9, law3.decok _ _ h10, law28.decok _ _ h11, law26.decok _ _ h12, law51.decok _ _ h13, Bool.and_self], fun x a h => by obtain ⟨x0, x1, x2, x3, x4, x5, x6, x7, x8, x9, x10, x11, x12, x13, rfl, h0, h1, h2, h3, h4, h5, h6, h7, h8, h9, h10, h11, h12, h13⟩ := decx55 (show dec55 x = some a from h); rfl, fun x => by show ((cel3 x.Kind ++ (cel45 x.From ++ (cel45 x.To ++ (cel47 x.Ballot ++ (cel2 x.Slot ++ (cel48 x.List_ ++ (cel53 x.Entry ++ (cel2 x.Number ++ (cel24 x.Vector_ ++ (cel2 x.Clock ++ (cel3 x.Origin ++ (cel28 x.Ops ++ (cel26 x.Epoch ++ (cel51 x.Part ++ []))))))))))))))).all AV.one = true; simp only [List.all_append, List.all_nil, show (cel3 x.Kind).all AV.one = true from law3.one _, show (cel45 x.From).all AV.one = true from law45.one _, show (cel45 x.To).all AV.one = true from law45.one _, show (cel47 x.Ballot).all AV.one = true from law47.one _, show (cel2 x.Slot).all AV.one = true from law2.one _, show (cel48 x.List_).all AV.one = true from law48.one _, show (cel53 x.Entry).all AV.one = true from law53.one _, show (cel2 x.Number).all AV.one = true from law2.one _, show (cel24 x.Vector_).all AV.one = true from law24.one _, show (cel2 x.Clock).all AV.one = true from law2.one _, show (cel3 x.Origin).all AV.one = true from law3.one _, show (cel28 x.Ops).all AV.one = true from law28.one _, show (cel26 x.Epoch).all AV.one = true from law26.one _, show (cel51 x.Part).all AV.one = true from law51.one _, Bool.and_self], fun x => noids_app (law3.noid x.Kind) (noids_app (law45.noid x.From) (noids_app (law45.noid x.To) (noids_app (law47.noid x.Ballot) (noids_app (law2.noid x.Slot) (noids_app (law48.noid x.List_) (noids_app (law53.noid x.Entry) (noids_app (law2.noid x.Number) (noids_app (law24.noid x.Vector_) (noids_app (law2.noid x.Clock) (noids_app (law3.noid x.Origin) (noids_app (law28.noid x.Ops) (noids_app (law26.noid x.Epoch) (noids_app (law51.noid x.Part) (trivial)))))))))))))), (fun ks h => nomatch h), (fun l s h => nomatch h), (fun s l h => nomatch h)⟩
theorem law60 : CodAt C 60 := ⟨fun x => rfl, fun x => rfl, fun x a h => (dSl_cw (C := C) (show dSl 3 x = some a from h)).1, fun x => rfl, fun x a h => (dSl_cw (C := C) (show dSl 3 x = some a from h)).2.1, fun x a h => (dSl_cw (C := C) (show dSl 3 x = some a from h)).2.2, fun a => rfl, fun a => noids_one (NoId.asl fun cs hc => by obtain ⟨y, _, rfl⟩ := List.mem_map.1 hc; exact law3.noid y), (fun ks h => nomatch h), (fun l s h => nomatch h), (fun s l h => nomatch h)⟩
theorem law102 : CodAt C 102 := ⟨fun x => rfl, fun x => rfl, fun x a h => (dSl_cw (C := C) (show dSl 9 x = some a from h)).1, fun x => rfl, fun x a h => (dSl_cw (C := C) (show dSl 9 x = some a from h)).2.1, fun x a h => (dSl_cw (C := C) (show dSl 9 x = some a from h)).2.2, fun a => rfl, fun a => noids_one (NoId.asl fun cs hc => by obtain ⟨y, _, rfl⟩ := List.mem_map.1 hc; exact law9.noid y), (fun ks h => nomatch h), (fun l s h => nomatch h), (fun s l h => nomatch h)⟩
theorem law107 : CodAt C 107 := ⟨fun x => rfl, fun x => rfl, fun x a h => (dSl_cw (C := C) (show dSl 45 x = some a from h)).1, fun x => rfl, fun x a h => (dSl_cw (C := C) (show dSl 45 x = some a from h)).2.1, fun x a h => (dSl_cw (C := C) (show dSl 45 x = some a from h)).2.2, fun a => rfl, fun a => noids_one (NoId.asl fun cs hc => by obtain ⟨y, _, rfl⟩ := List.mem_map.1 hc; exact law45.noid y), (fun ks h => nomatch h), (fun l s h => nomatch h), (fun s l h => nomatch h)⟩
theorem law115 : CodAt C 115 := ⟨fun x => rfl, fun x => rfl, fun x a h => (dSl_cw (C := C) (show dSl 24 x = some a from h)).1, fun x => rfl, fun x a h => (dSl_cw (C := C) (show dSl 24 x = some a from h)).2.1, fun x a h => (dSl_cw (C := C) (show dSl 24 x = some a from h)).2.2, fun a => rfl, fun a => noids_one (NoId.asl fun cs hc => by obtain ⟨y, _, rfl⟩ := List.mem_map.1 hc; exact law24.noid y), (fun ks h => nomatch h), (fun l s h => nomatch h), (fun s l h => nomatch h)⟩
theorem law126 : CodAt C 126 := ⟨fun x => rfl, fun x => rfl, fun x a h => (dSl_cw (C := C) (show dSl 2 x = some a from h)).1, fun x => rfl, fun x a h => (dSl_cw (C := C) (show dSl 2 x = some a from h)).2.1, fun x a h => (dSl_cw (C := C) (show dSl 2 x = some a from h)).2.2, fun a => rfl, fun a => noids_one (NoId.asl fun cs hc => by obtain ⟨y, _, rfl⟩ := List.mem_map.1 hc; exact law2.noid y), (fun ks h => nomatch h), (fun l s h => nomatch h), (fun s l h => nomatch h)⟩
theorem lawX {t : Nat} (h : celT t = fun _ => []) (h1 : encT t = fun _ => .agg []) (h2 : decT t = fun _ => none) (h3 : szT t = 0) (h4 : kdT t = none) (h5 : b2sT t = fun _ => none) (h6 : s2bT t = fun _ => none) : CodAt C t := by
  refine ⟨fun x => ?_, fun x => ?_, fun x a hx => ?_, fun x => ?_, fun x a hx => ?_, fun x a hx => ?_, fun a => ?_, fun a => ?_, fun ks hk => ?_, fun l s hl => ?_, fun s l hl => ?_⟩
  · show (encT t x).cells C = celT t x; rw [h, h1]; rfl
  · show (celT t x).length = szT t; rw [h, h3]; rfl
  · have e : decT t x = some a := hx; rw [h2] at e; cases e
  · show (encT t x).ok = true; rw [h1]; rfl
  · have e : decT t x = some a := hx; rw [h2] at e; cases e
  · have e : decT t x = some a := hx; rw [h2] at e; cases e
  · show (celT t a).all AV.one = true; rw [h]; rfl
  · show NoIds (celT t a); rw [h]; trivial
  · have e : kdT t = some ks := hk; rw [h4] at e; cases e
  · have e : b2sT t l = some s := hl; rw [h5] at e; cases e
  · have e : s2bT t s = some l := hl; rw [h6] at e; cases e
theorem lawOther : ∀ t : Nat, t ≠ 2 → t ≠ 3 → t ≠ 4 → t ≠ 5 → t ≠ 9 → t ≠ 12 → t ≠ 21 → t ≠ 22 → t ≠ 23 → t ≠ 24 → t ≠ 25 → t ≠ 26 → t ≠ 27 → t ≠ 28 → t ≠ 29 → t ≠ 30 → t ≠ 31 → t ≠ 32 → t ≠ 33 → t ≠ 34 → t ≠ 40 → t ≠ 41 → t ≠ 42 → t ≠ 43 → t ≠ 44 → t ≠ 45 → t ≠ 46 → t ≠ 47 → t ≠ 48 → t ≠ 49 → t ≠ 50 → t ≠ 51 → t ≠ 52 → t ≠ 53 → t ≠ 54 → t ≠ 55 → t ≠ 56 → t ≠ 60 → t ≠ 96 → t ≠ 98 → t ≠ 101 → t ≠ 102 → t ≠ 107 → t ≠ 115 → t ≠ 126 → t ≠ 157 → t ≠ 159 → t ≠ 169 → CodAt C t
  | t, h2, h3, h4, h5, h9, h12, h21, h22, h23, h24, h25, h26, h27, h28, h29, h30, h31, h32, h33, h34, h40, h41, h42, h43, h44, h45, h46, h47, h48, h49, h50, h51, h52, h53, h54, h55, h56, h60, h96, h98, h101, h102, h107, h115, h126, h157, h159, h169 => by
    apply lawX <;> first
      | (unfold celT; split <;> first | rfl | contradiction | (exfalso; omega))
      | (unfold encT; split <;> first | rfl | contradiction | (exfalso; omega))
      | (unfold decT; split <;> first | rfl | contradiction | (exfalso; omega))
      | (unfold szT; split <;> first | rfl | contradiction | (exfalso; omega))
      | (unfold kdT; split <;> first | rfl | contradiction | (exfalso; omega))
      | (unfold b2sT; split <;> first | rfl | contradiction | (exfalso; omega))
      | (unfold s2bT; split <;> first | rfl | contradiction | (exfalso; omega))
theorem cOk : C.Ok := Cod.Ok.of fun t => by
  by_cases h2 : t = 2
  · subst h2; exact law2
  by_cases h3 : t = 3
  · subst h3; exact law3
  by_cases h4 : t = 4
  · subst h4; exact law4
  by_cases h5 : t = 5
  · subst h5; exact law5
  by_cases h9 : t = 9
  · subst h9; exact law9
  by_cases h12 : t = 12
  · subst h12; exact law12
  by_cases h21 : t = 21
  · subst h21; exact law21
  by_cases h22 : t = 22
  · subst h22; exact law22
  by_cases h23 : t = 23
  · subst h23; exact law23
  by_cases h24 : t = 24
  · subst h24; exact law24
  by_cases h25 : t = 25
  · subst h25; exact law25
  by_cases h26 : t = 26
  · subst h26; exact law26
  by_cases h27 : t = 27
  · subst h27; exact law27
  by_cases h28 : t = 28
  · subst h28; exact law28
  by_cases h29 : t = 29
  · subst h29; exact law29
  by_cases h30 : t = 30
  · subst h30; exact law30
  by_cases h31 : t = 31
  · subst h31; exact law31
  by_cases h32 : t = 32
  · subst h32; exact law32
  by_cases h33 : t = 33
  · subst h33; exact law33
  by_cases h34 : t = 34
  · subst h34; exact law34
  by_cases h40 : t = 40
  · subst h40; exact law40
  by_cases h41 : t = 41
  · subst h41; exact law41
  by_cases h42 : t = 42
  · subst h42; exact law42
  by_cases h43 : t = 43
  · subst h43; exact law43
  by_cases h44 : t = 44
  · subst h44; exact law44
  by_cases h45 : t = 45
  · subst h45; exact law45
  by_cases h46 : t = 46
  · subst h46; exact law46
  by_cases h47 : t = 47
  · subst h47; exact law47
  by_cases h48 : t = 48
  · subst h48; exact law48
  by_cases h49 : t = 49
  · subst h49; exact law49
  by_cases h50 : t = 50
  · subst h50; exact law50
  by_cases h51 : t = 51
  · subst h51; exact law51
  by_cases h52 : t = 52
  · subst h52; exact law52
  by_cases h53 : t = 53
  · subst h53; exact law53
  by_cases h54 : t = 54
  · subst h54; exact law54
  by_cases h55 : t = 55
  · subst h55; exact law55
  by_cases h56 : t = 56
  · subst h56; exact law56
  by_cases h60 : t = 60
  · subst h60; exact law60
  by_cases h96 : t = 96
  · subst h96; exact law96
  by_cases h98 : t = 98
  · subst h98; exact law98
  by_cases h101 : t = 101
  · subst h101; exact law101
  by_cases h102 : t = 102
  · subst h102; exact law102
  by_cases h107 : t = 107
  · subst h107; exact law107
  by_cases h115 : t = 115
  · subst h115; exact law115
  by_cases h126 : t = 126
  · subst h126; exact law126
  by_cases h157 : t = 157
  · subst h157; exact law157
  by_cases h159 : t = 159
  · subst h159; exact law159
  by_cases h169 : t = 169
  · subst h169; exact law169
  exact lawOther t h2 h3 h4 h5 h9 h12 h21 h22 h23 h24 h25 h26 h27 h28 h29 h30 h31 h32 h33 h34 h40 h41 h42 h43 h44 h45 h46 h47 h48 h49 h50 h51 h52 h53 h54 h55 h56 h60 h96 h98 h101 h102 h107 h115 h126 h157 h159 h169
def zeroT : Nat → Option (TV τ)
  | 2 => some (.int .i64 0)
  | 3 => some (.int .i64 0)
  | 4 => some (.bool false)
  | 5 => some (.int .u8 0)
  | 9 => some (.str [])
  | 12 => some (.int .u64 0)
  | 21 => some (.int .i32 0)
  | 22 => some (.arr 3 8 (Vector.replicate 8 (default : Int)))
  | 23 => some (.arr 2 8 (Vector.replicate 8 (default : Int)))
  | 24 => some (.arr 2 8 (Vector.replicate 8 (default : Int)))
  | 25 => some (.agg [(.int .i64 0), (.arr 3 8 (Vector.replicate 8 (default : Int))), (.arr 2 8 (Vector.replicate 8 (default : Int))), (.arr 3 8 (Vector.replicate 8 (default : Int)))])
  | 26 => some (.agg [(.int .i64 0), (.arr 3 8 (Vector.replicate 8 (default : Int))), (.arr 2 8 (Vector.replicate 8 (default : Int))), (.arr 3 8 (Vector.replicate 8 (default : Int)))])
  | 27 => some (.nil .slice)
  | 28 => some (.nil .slice)
  | 29 => some (.arr 28 8 (Vector.replicate 8 (default : List (GOp))))
  | 30 => some (.arr 24 8 (Vector.replicate 8 (default : Vector (Int) 8)))
  | 31 => some (.nil .slice)
  | 32 => some (.nil .slice)
  | 33 => some (.agg [(.int .i64 0), (.int .i64 0), (.bool false), (.agg [(.int .i64 0), (.arr 3 8 (Vector.replicate 8 (default : Int))), (.arr 2 8 (Vector.replicate 8 (default : Int))), (.arr 3 8 (Vector.replicate 8 (default : Int)))]), (.int .i64 0), (.arr 2 8 (Vector.replicate 8 (default : Int))), (.arr 2 8 (Vector.replicate 8 (default : Int))), (.nil .slice), (.nil .slice), (.int .i64 0), (.arr 2 8 (Vector.replicate 8 (default : Int))), (.arr 28 8 (Vector.replicate 8 (default : List (GOp)))), (.arr 24 8 (Vector.replicate 8 (default : Vector (Int) 8))), (.arr 2 8 (Vector.replicate 8 (default : Int))), (.arr 2 8 (Vector.replicate 8 (default : Int))), (.arr 2 8 (Vector.replicate 8 (default : Int))), (.nil .slice), (.nil .slice)])
  | 34 => some (.agg [(.int .i64 0), (.int .i64 0), (.bool false), (.agg [(.int .i64 0), (.arr 3 8 (Vector.replicate 8 (default : Int))), (.arr 2 8 (Vector.replicate 8 (default : Int))), (.arr 3 8 (Vector.replicate 8 (default : Int)))]), (.int .i64 0), (.arr 2 8 (Vector.replicate 8 (default : Int))), (.arr 2 8 (Vector.replicate 8 (default : Int))), (.nil .slice), (.nil .slice), (.int .i64 0), (.arr 2 8 (Vector.replicate 8 (default : Int))), (.arr 28 8 (Vector.replicate 8 (default : List (GOp)))), (.arr 24 8 (Vector.replicate 8 (default : Vector (Int) 8))), (.arr 2 8 (Vector.replicate 8 (default : Int))), (.arr 2 8 (Vector.replicate 8 (default : Int))), (.arr 2 8 (Vector.replicate 8 (default : Int))), (.nil .slice), (.nil .slice)])
  | 40 => some (.agg [(.int .i64 0), (.int .i64 0)])
  | 41 => some (.agg [(.int .i64 0), (.int .i64 0)])
  | 42 => some (.agg [(.agg [(.int .i64 0), (.int .i64 0)]), (.int .i64 0), (.int .i64 0), (.int .i64 0), (.str []), (.str []), (.str [])])
  | 43 => some (.agg [(.agg [(.int .i64 0), (.int .i64 0)]), (.int .i64 0), (.int .i64 0), (.int .i64 0), (.str []), (.str []), (.str [])])
  | 44 => some (.agg [(.int .i64 0), (.int .i64 0)])
  | 45 => some (.agg [(.int .i64 0), (.int .i64 0)])
  | 46 => some (.agg [(.int .i64 0), (.int .i64 0)])
  | 47 => some (.agg [(.int .i64 0), (.int .i64 0)])
  | 48 => some (.nil .slice)
  | 49 => some (.nil .slice)
  | 50 => some (.agg [(.int .i64 0), (.int .i64 0), (.int .i64 0), (.nil .slice)])
  | 51 => some (.agg [(.int .i64 0), (.int .i64 0), (.int .i64 0), (.nil .slice)])
  | 52 => some (.agg [(.int .i64 0), (.int .i64 0), (.int .i64 0), (.agg [(.agg [(.int .i64 0), (.int .i64 0)]), (.int .i64 0), (.int .i64 0), (.int .i64 0), (.str []), (.str []), (.str [])]), (.int .i64 0), (.int .i64 0), (.nil .slice), (.agg [(.int .i64 0), (.arr 3 8 (Vector.replicate 8 (default : Int))), (.arr 2 8 (Vector.replicate 8 (default : Int))), (.arr 3 8 (Vector.replicate 8 (default : Int)))]), (.int .i64 0), (.arr 2 8 (Vector.replicate 8 (default : Int))), (.int .i64 0), (.agg [(.int .i64 0), (.int .i64 0), (.int .i64 0), (.nil .slice)]), (.int .i64 0), (.int .i64 0), (.int .i64 0)])
  | 53 => some (.agg [(.int .i64 0), (.int .i64 0), (.int .i64 0), (.agg [(.agg [(.int .i64 0), (.int .i64 0)]), (.int .i64 0), (.int .i64 0), (.int .i64 0), (.str []), (.str []), (.str [])]), (.int .i64 0), (.int .i64 0), (.nil .slice), (.agg [(.int .i64 0), (.arr 3 8 (Vector.replicate 8 (default : Int))), (.arr 2 8 (Vector.replicate 8 (default : Int))), (.arr 3 8 (Vector.replicate 8 (default : Int)))]), (.int .i64 0), (.arr 2 8 (Vector.replicate 8 (default : Int))), (.int .i64 0), (.agg [(.int .i64 0), (.int .i64 0), (.int .i64 0), (.nil .slice)]), (.int .i64 0), (.int .i64 0), (.int .i64 0)])
  | 54 => some (.agg [(.int .i64 0), (.agg [(.int .i64 0), (.int .i64 0)]), (.agg [(.int .i64 0), (.int .i64 0)]), (.agg [(.int .i64 0), (.int .i64 0)]), (.int .i64 0), (.nil .slice), (.agg [(.int .i64 0), (.int .i64 0), (.int .i64 0), (.agg [(.agg [(.int .i64 0), (.int .i64 0)]), (.int .i64 0), (.int .i64 0), (.int .i64 0), (.str []), (.str []), (.str [])]), (.int .i64 0), (.int .i64 0), (.nil .slice), (.agg [(.int .i64 0), (.arr 3 8 (Vector.replicate 8 (default : Int))), (.arr 2 8 (Vector.replicate 8 (default : Int))), (.arr 3 8 (Vector.replicate 8 (default : Int)))]), (.int .i64 0), (.arr 2 8 (Vector.replicate 8 (default : Int))), (.int .i64 0), (.agg [(.int .i64 0), (.int .i64 0), (.int .i64 0), (.nil .slice)]), (.int .i64 0), (.int .i64 0), (.int .i64 0)]), (.int .i64 0), (.arr 2 8 (Vector.replicate 8 (default : Int))), (.int .i64 0), (.int .i64 0), (.nil .slice), (.agg [(.int .i64 0), (.arr 3 8 (Vector.replicate 8 (default : Int))), (.arr 2 8 (Vector.replicate 8 (default : Int))), (.arr 3 8 (Vector.replicate 8 (default : Int)))]), (.agg [(.int .i64 0), (.int .i64 0), (.int .i64 0), (.nil .slice)])])
  | 55 => some (.agg [(.int .i64 0), (.agg [(.int .i64 0), (.int .i64 0)]), (.agg [(.int .i64 0), (.int .i64 0)]), (.agg [(.int .i64 0), (.int .i64 0)]), (.int .i64 0), (.nil .slice), (.agg [(.int .i64 0), (.int .i64 0), (.int .i64 0), (.agg [(.agg [(.int .i64 0), (.int .i64 0)]), (.int .i64 0), (.int .i64 0), (.int .i64 0), (.str []), (.str []), (.str [])]), (.int .i64 0), (.int .i64 0), (.nil .slice), (.agg [(.int .i64 0), (.arr 3 8 (Vector.replicate 8 (default : Int))), (.arr 2 8 (Vector.replicate 8 (default : Int))), (.arr 3 8 (Vector.replicate 8 (default : Int)))]), (.int .i64 0), (.arr 2 8 (Vector.replicate 8 (default : Int))), (.int .i64 0), (.agg [(.int .i64 0), (.int .i64 0), (.int .i64 0), (.nil .slice)]), (.int .i64 0), (.int .i64 0), (.int .i64 0)]), (.int .i64 0), (.arr 2 8 (Vector.replicate 8 (default : Int))), (.int .i64 0), (.int .i64 0), (.nil .slice), (.agg [(.int .i64 0), (.arr 3 8 (Vector.replicate 8 (default : Int))), (.arr 2 8 (Vector.replicate 8 (default : Int))), (.arr 3 8 (Vector.replicate 8 (default : Int)))]), (.agg [(.int .i64 0), (.int .i64 0), (.int .i64 0), (.nil .slice)])])
  | 56 => some (.int .i64 0)
  | 60 => some (.nil .slice)
  | 96 => some (.nil .slice)
  | 98 => some (.agg [(.int .i64 0), (.int .i64 0), (.str []), (.nil .slice)])
  | 101 => some (.agg [(.int .i64 0), (.agg [(.int .i64 0), (.int .i64 0)]), (.agg [(.int .i64 0), (.int .i64 0), (.int .i64 0), (.agg [(.agg [(.int .i64 0), (.int .i64 0)]), (.int .i64 0), (.int .i64 0), (.int .i64 0), (.str []), (.str []), (.str [])]), (.int .i64 0), (.int .i64 0), (.nil .slice), (.agg [(.int .i64 0), (.arr 3 8 (Vector.replicate 8 (default : Int))), (.arr 2 8 (Vector.replicate 8 (default : Int))), (.arr 3 8 (Vector.replicate 8 (default : Int)))]), (.int .i64 0), (.arr 2 8 (Vector.replicate 8 (default : Int))), (.int .i64 0), (.agg [(.int .i64 0), (.int .i64 0), (.int .i64 0), (.nil .slice)]), (.int .i64 0), (.int .i64 0), (.int .i64 0)])])
  | 102 => some (.nil .slice)
  | 107 => some (.nil .slice)
  | 115 => some (.nil .slice)
  | 126 => some (.nil .slice)
  | 157 => some (.agg [(.int .i64 0), (.agg [(.int .i64 0), (.int .i64 0)]), (.int .i64 0)])
  | 159 => some (.agg [(.int .i64 0), (.int .i64 0), (.agg [(.int .i64 0), (.agg [(.int .i64 0), (.int .i64 0)]), (.int .i64 0)])])
  | 169 => some (.agg [(.str []), (.str [])])
  | _ => none
theorem zok2 : ∃ i, E.ty 2 = some i ∧ (.int .i64 0 : TV τ).ok = true ∧ CW i.zero ((.int .i64 0 : TV τ).cells C) ∧ (.int .i64 0 : TV τ).isAgg = i.agg := ⟨ti2, rfl, rfl, CW.of_eq (by kernel_rfl), rfl⟩
theorem zok3 : ∃ i, E.ty 3 = some i ∧ (.int .i64 0 : TV τ).ok = true ∧ CW i.zero ((.int .i64 0 : TV τ).cells C) ∧ (.int .i64 0 : TV τ).isAgg = i.agg := ⟨ti3, rfl, rfl, CW.of_eq (by kernel_rfl), rfl⟩
theorem zok4 : ∃ i, E.ty 4 = some i ∧ (.bool false : TV τ).ok = true ∧ CW i.zero ((.bool false : TV τ).cells C) ∧ (.bool false : TV τ).isAgg = i.agg := ⟨ti4, rfl, rfl, CW.of_eq (by kernel_rfl), rfl⟩
theorem zok5 : ∃ i, E.ty 5 = some i ∧ (.int .u8 0 : TV τ).ok = true ∧ CW i.zero ((.int .u8 0 : TV τ).cells C) ∧ (.int .u8 0 : TV τ).isAgg = i.agg := ⟨ti5, rfl, rfl, CW.of_eq (by kernel_rfl), rfl⟩
theorem zok9 : ∃ i, E.ty 9 = some i ∧ (.str [] : TV τ).ok = true ∧ CW i.zero ((.str [] : TV τ).cells C) ∧ (.str [] : TV τ).isAgg = i.agg := ⟨ti9, rfl, rfl, CW.of_eq (by kernel_rfl), rfl⟩
theorem zok12 : ∃ i, E.ty 12 = some i ∧ (.int .u64 0 : TV τ).ok = true ∧ CW i.zero ((.int .u64 0 : TV τ).cells C) ∧ (.int .u64 0 : TV τ).isAgg = i.agg := ⟨ti12, rfl, rfl, CW.of_eq (by kernel_rfl), rfl⟩
theorem zok21 : ∃ i, E.ty 21 = some i ∧ (.int .i32 0 : TV τ).ok = true ∧ CW i.zero ((.int .i32 0 : TV τ).cells C) ∧ (.int .i32 0 : TV τ).isAgg = i.agg := ⟨ti21, rfl, rfl, CW.of_eq (by kernel_rfl), rfl⟩
theorem zok22 : ∃ i, E.ty 22 = some i ∧ (.arr 3 8 (Vector.replicate 8 (default : Int)) : TV τ).ok = true ∧ CW i.zero ((.arr 3 8 (Vector.replicate 8 (default : Int)) : TV τ).cells C) ∧ (.arr 3 8 (Vector.replicate 8 (default : Int)) : TV τ).isAgg = i.agg := ⟨ti22, rfl, rfl, CW.of_eq (by kernel_rfl), rfl⟩
theorem zok23 : ∃ i, E.ty 23 = some i ∧ (.arr 2 8 (Vector.replicate 8 (default : Int)) : TV τ).ok = true ∧ CW i.zero ((.arr 2 8 (Vector.replicate 8 (default : Int)) : TV τ).cells C) ∧ (.arr 2 8 (Vector.replicate 8 (default : Int)) : TV τ).isAgg = i.agg := ⟨ti23, rfl, rfl, CW.of_eq (by kernel_rfl), rfl⟩
theorem zok24 : ∃ i, E.ty 24 = some i ∧ (.arr 2 8 (Vector.replicate 8 (default : Int)) : TV τ).ok = true ∧ CW i.zero ((.arr 2 8 (Vector.replicate 8 (default : Int)) : TV τ).cells C) ∧ (.arr 2 8 (Vector.replicate 8 (default : Int)) : TV τ).isAgg = i.agg := ⟨ti24, rfl, rfl, CW.of_eq (by kernel_rfl), rfl⟩
theorem zok25 : ∃ i, E.ty 25 = some i ∧ (.agg [(.int .i64 0), (.arr 3 8 (Vector.replicate 8 (default : Int))), (.arr 2 8 (Vector.replicate 8 (default : Int))), (.arr 3 8 (Vector.replicate 8 (default : Int)))] : TV τ).ok = true ∧ CW i.zero ((.agg [(.int .i64 0), (.arr 3 8 (Vector.replicate 8 (default : Int))), (.arr 2 8 (Vector.replicate 8 (default : Int))), (.arr 3 8 (Vector.replicate 8 (default : Int)))] : TV τ).cells C) ∧ (.agg [(.int .i64 0), (.arr 3 8 (Vector.replicate 8 (default : Int))), (.arr 2 8 (Vector.replicate 8 (default : Int))), (.arr 3 8 (Vector.replicate 8 (default : Int)))] : TV τ).isAgg = i.agg := ⟨ti25, rfl, rfl, CW.of_eq (by kernel_rfl), rfl⟩
theorem zok26 : ∃ i, E.ty 26 = some i ∧ (.agg [(.int .i64 0), (.arr 3 8 (Vector.replicate 8 (default : Int))), (.arr 2 8 (Vector.replicate 8 (default : Int))), (.arr 3 8 (Vector.replicate 8 (default : Int)))] : TV τ).ok = true ∧ CW i.zero ((.agg [(.int .i64 0), (.arr 3 8 (Vector.replicate 8 (default : Int))), (.arr 2 8 (Vector.replicate 8 (default : Int))), (.arr 3 8 (Vector.replicate 8 (default : Int)))] : TV τ).cells C) ∧ (.agg [(.int .i64 0), (.arr 3 8 (Vector.replicate 8 (default : Int))), (.arr 2 8 (Vector.replicate 8 (default : Int))), (.arr 3 8 (Vector.replicate 8 (default : Int)))] : TV τ).isAgg = i.agg := ⟨ti26, rfl, rfl, CW.of_eq (by kernel_rfl), rfl⟩
theorem zok27 : ∃ i, E.ty 27 = some i ∧ (.nil .slice : TV τ).ok = true ∧ CW i.zero ((.nil .slice : TV τ).cells C) ∧ (.nil .slice : TV τ).isAgg = i.agg := ⟨ti27, rfl, rfl, CW.of_eq (by kernel_rfl), rfl⟩
theorem zok28 : ∃ i, E.ty 28 = some i ∧ (.nil .slice : TV τ).ok = true ∧ CW i.zero ((.nil .slice : TV τ).cells C) ∧ (.nil .slice : TV τ).isAgg = i.agg := ⟨ti28, rfl, rfl, CW.of_eq (by kernel_rfl), rfl⟩
theorem zok29 : ∃ i, E.ty 29 = some i ∧ (.arr 28 8 (Vector.replicate 8 (default : List (GOp))) : TV τ).ok = true ∧ CW i.zero ((.arr 28 8 (Vector.replicate 8 (default : List (GOp))) : TV τ).cells C) ∧ (.arr 28 8 (Vector.replicate 8 (default : List (GOp))) : TV τ).isAgg = i.agg := ⟨ti29, rfl, rfl, (show ((.arr 28 8 (Vector.replicate 8 (default : List (GOp))) : TV τ).cells C) = [.asl 8 [], .asl 8 [], .asl 8 [], .asl 8 [], .asl 8 [], .asl 8 [], .asl 8 [], .asl 8 []] from by kernel_rfl) ▸ zz_cw (trivial), rfl⟩
theorem zok30 : ∃ i, E.ty 30 = some i ∧ (.arr 24 8 (Vector.replicate 8 (default : Vector (Int) 8)) : TV τ).ok = true ∧ CW i.zero ((.arr 24 8 (Vector.replicate 8 (default : Vector (Int) 8)) : TV τ).cells C) ∧ (.arr 24 8 (Vector.replicate 8 (default : Vector (Int) 8)) : TV τ).isAgg = i.agg := ⟨ti30, rfl, rfl, CW.of_eq (by kernel_rfl), rfl⟩
theorem zok31 : ∃ i, E.ty 31 = some i ∧ (.nil .slice : TV τ).ok = true ∧ CW i.zero ((.nil .slice : TV τ).cells C) ∧ (.nil .slice : TV τ).isAgg = i.agg := ⟨ti31, rfl, rfl, CW.of_eq (by kernel_rfl), rfl⟩
theorem zok32 : ∃ i, E.ty 32 = some i ∧ (.nil .slice : TV τ).ok = true ∧ CW i.zero ((.nil .slice : TV τ).cells C) ∧ (.nil .slice : TV τ).isAgg = i.agg := ⟨ti32, rfl, rfl, CW.of_eq (by kernel_rfl), rfl⟩
theorem zok33 : ∃ i, E.ty 33 = some i ∧ (.agg [(.int .i64 0), (.int .i64 0), (.bool false), (.agg [(.int .i64 0), (.arr 3 8 (Vector.replicate 8 (default : Int))), (.arr 2 8 (Vector.replicate 8 (default : Int))), (.arr 3 8 (Vector.replicate 8 (default : Int)))]), (.int .i64 0), (.arr 2 8 (Vector.replicate 8 (default : Int))), (.arr 2 8 (Vector.replicate 8 (default : Int))), (.nil .slice), (.nil .slice), (.int .i64 0), (.arr 2 8 (Vector.replicate 8 (default : Int))), (.arr 28 8 (Vector.replicate 8 (default : List (GOp)))), (.arr 24 8 (Vector.replicate 8 (default : Vector (Int) 8))), (.arr 2 8 (Vector.replicate 8 (default : Int))), (.arr 2 8 (Vector.replicate 8 (default : Int))), (.arr 2 8 (Vector.replicate 8 (default : Int))), (.nil .slice), (.nil .slice)] : TV τ).ok = true ∧ CW i.zero ((.agg [(.int .i64 0), (.int .i64 0), (.bool false), (.agg [(.int .i64 0), (.arr 3 8 (Vector.replicate 8 (default : Int))), (.arr 2 8 (Vector.replicate 8 (default : Int))), (.arr 3 8 (Vector.replicate 8 (default : Int)))]), (.int .i64 0), (.arr 2 8 (Vector.replicate 8 (default : Int))), (.arr 2 8 (Vector.replicate 8 (default : Int))), (.nil .slice), (.nil .slice), (.int .i64 0), (.arr 2 8 (Vector.replicate 8 (default : Int))), (.arr 28 8 (Vector.replicate 8 (default : List (GOp)))), (.arr 24 8 (Vector.replicate 8 (default : Vector (Int) 8))), (.arr 2 8 (Vector.replicate 8 (default : Int))), (.arr 2 8 (Vector.replicate 8 (default : Int))), (.arr 2 8 (Vector.replicate 8 (default : Int))), (.nil .slice), (.nil .slice)] : TV τ).cells C) ∧ (.agg [(.int .i64 0), (.int .i64 0), (.bool false), (.agg [(.int .i64 0), (.arr 3 8 (Vector.replicate 8 (default : Int))), (.arr 2 8 (Vector.replicate 8 (default : Int))), (.arr 3 8 (Vector.replicate 8 (default : Int)))]), (.int .i64 0), (.arr 2 8 (Vector.replicate 8 (default : Int))), (.arr 2 8 (Vector.replicate 8 (default : Int))), (.nil .slice), (.nil .slice), (.int .i64 0), (.arr 2 8 (Vector.replicate 8 (default : Int))), (.arr 28 8 (Vector.replicate 8 (default : List (GOp)))), (.arr 24 8 (Vector.replicate 8 (default : Vector (Int) 8))), (.arr 2 8 (Vector.replicate 8 (default : Int))), (.arr 2 8 (Vector.replicate 8 (default : Int))), (.arr 2 8 (Vector.replicate 8 (default : Int))), (.nil .slice), (.nil .slice)] : TV τ).isAgg = i.agg := ⟨ti33, rfl, rfl, (show ((.agg [(.int .i64 0), (.int .i64 0), (.bool false), (.agg [(.int .i64 0), (.arr 3 8 (Vector.replicate 8 (default : Int))), (.arr 2 8 (Vector.replicate 8 (default : Int))), (.arr 3 8 (Vector.replicate 8 (default : Int)))]), (.int .i64 0), (.arr 2 8 (Vector.replicate 8 (default : Int))), (.arr 2 8 (Vector.replicate 8 (default : Int))), (.nil .slice), (.nil .slice), (.int .i64 0), (.arr 2 8 (Vector.replicate 8 (default : Int))), (.arr 28 8 (Vector.replicate 8 (default : List (GOp)))), (.arr 24 8 (Vector.replicate 8 (default : Vector (Int) 8))), (.arr 2 8 (Vector.replicate 8 (default : Int))), (.arr 2 8 (Vector.replicate 8 (default : Int))), (.arr 2 8 (Vector.replicate 8 (default : Int))), (.nil .slice), (.nil .slice)] : TV τ).cells C) = [.v (.int .i64 0), .v (.int .i64 0), .v (.bool false), .v (.int .i64 0), .v (.int .i64 0), .v (.int .i64 0), .v (.int .i64 0), .v (.int .i64 0), .v (.int .i64 0), .v (.int .i64 0), .v (.int .i64 0), .v (.int .i64 0), .v (.int .i64 0), .v (.int .i64 0), .v (.int .i64 0), .v (.int .i64 0), .v (.int .i64 0), .v (.int .i64 0), .v (.int .i64 0), .v (.int .i64 0), .v (.int .i64 0), .v (.int .i64 0), .v (.int .i64 0), .v (.int .i64 0), .v (.int .i64 0), .v (.int .i64 0), .v (.int .i64 0), .v (.int .i64 0), .v (.int .i64 0), .v (.int .i64 0), .v (.int .i64 0), .v (.int .i64 0), .v (.int .i64 0), .v (.int .i64 0), .v (.int .i64 0), .v (.int .i64 0), .v (.int .i64 0), .v (.int .i64 0), .v (.int .i64 0), .v (.int .i64 0), .v (.int .i64 0), .v (.int .i64 0), .v (.int .i64 0), .v (.int .i64 0), .v (.int .i64 0), .v (.slice none 0 0), .v (.slice none 0 0), .v (.int .i64 0), .v (.int .i64 0), .v (.int .i64 0), .v (.int .i64 0), .v (.int .i64 0), .v (.int .i64 0), .v (.int .i64 0), .v (.int .i64 0), .v (.int .i64 0), .asl 8 [], .asl 8 [], .asl 8 [], .asl 8 [], .asl 8 [], .asl 8 [], .asl 8 [], .asl 8 [], .v (.int .i64 0), .v (.int .i64 0), .v (.int .i64 0), .v (.int .i64 0), .v (.int .i64 0), .v (.int .i64 0), .v (.int .i64 0), .v (.int .i64 0), .v (.int .i64 0), .v (.int .i64 0), .v (.int .i64 0), .v (.int .i64 0), .v (.int .i64 0), .v (.int .i64 0), .v (.int .i64 0), .v (.int .i64 0), .v (.int .i64 0), .v (.int .i64 0), .v (.int .i64 0), .v (.int .i64 0), .v (.int .i64 0), .v (.int .i64 0), .v (.int .i64 0), .v (.int .i64 0), .v (.int .i64 0), .v (.int .i64 0), .v (.int .i64 0), .v (.int .i64 0), .v (.int .i64 0), .v (.int .i64 0), .v (.int .i64 0), .v (.int .i64 0), .v (.int .i64 0), .v (.int .i64 0), .v (.int .i64 0), .v (.int .i64 0), .v (.int .i64 0), .v (.int .i64 0), .v (.int .i64 0), .v (.int .i64 0), .v (.int .i64 0), .v (.int .i64 0), .v (.int .i64 0), .v (.int .i64 0), .v (.int .i64 0), .v (.int .i64 0), .v (.int .i64 0), .v (.int .i64 0), .v (.int .i64 0), .v (.int .i64 0), .v (.int .i64 0), .v (.int .i64 0), .v (.int .i64 0), .v (.int .i64 0), .v (.int .i64 0), .v (.int .i64 0), .v (.int .i64 0), .v (.int .i64 0), .v (.int .i64 0), .v (.int .i64 0), .v (.int .i64 0), .v (.int .i64 0), .v (.int .i64 0), .v (.int .i64 0), .v (.int .i64 0), .v (.int .i64 0), .v (.int .i64 0), .v (.int .i64 0), .v (.int .i64 0), .v (.int .i64 0), .v (.int .i64 0), .v (.int .i64 0), .v (.int .i64 0), .v (.int .i64 0), .v (.int .i64 0), .v (.int .i64 0), .v (.int .i64 0), .v (.int .i64 0), .v (.int .i64 0), .v (.int .i64 0), .v (.int .i64 0), .v (.int .i64 0), .v (.int .i64 0), .v (.int .i64 0), .v (.int .i64 0), .v (.int .i64 0), .v (.int .i64 0), .v (.int .i64 0), .v (.slice none 0 0), .v (.slice none 0 0)] from by kernel_rfl) ▸ zz_cw (⟨rfl, ⟨rfl, ⟨rfl, ⟨rfl, ⟨rfl, ⟨rfl, ⟨rfl, ⟨rfl, ⟨rfl, ⟨rfl, ⟨rfl, ⟨rfl, ⟨rfl, ⟨rfl, ⟨rfl, ⟨rfl, ⟨rfl, ⟨rfl, ⟨rfl, ⟨rfl, ⟨rfl, ⟨rfl, ⟨rfl, ⟨rfl, ⟨rfl, ⟨rfl, ⟨rfl, ⟨rfl, ⟨rfl, ⟨rfl, ⟨rfl, ⟨rfl, ⟨rfl, ⟨rfl, ⟨rfl, ⟨rfl, ⟨rfl, ⟨rfl, ⟨rfl, ⟨rfl, ⟨rfl, ⟨rfl, ⟨rfl, ⟨rfl, ⟨rfl, ⟨rfl, ⟨rfl, ⟨rfl, ⟨rfl, ⟨rfl, ⟨rfl, ⟨rfl, ⟨rfl, ⟨rfl, ⟨rfl, ⟨rfl, ⟨rfl, ⟨rfl, ⟨rfl, ⟨rfl, ⟨rfl, ⟨rfl, ⟨rfl, ⟨rfl, ⟨rfl, ⟨rfl, ⟨rfl, ⟨rfl, ⟨rfl, ⟨rfl, ⟨rfl, ⟨rfl, ⟨rfl, ⟨rfl, ⟨rfl, ⟨rfl, ⟨rfl, ⟨rfl, ⟨rfl, ⟨rfl, ⟨rfl, ⟨rfl, ⟨rfl, ⟨rfl, ⟨rfl, ⟨rfl, ⟨rfl, ⟨rfl, ⟨rfl, ⟨rfl, ⟨rfl, ⟨rfl, ⟨rfl, ⟨rfl, ⟨rfl, ⟨rfl, ⟨rfl, ⟨rfl, ⟨rfl, ⟨rfl, ⟨rfl, ⟨rfl, ⟨rfl, ⟨rfl, ⟨rfl, ⟨rfl, ⟨rfl, ⟨rfl, ⟨rfl, ⟨rfl, ⟨rfl, ⟨rfl, ⟨rfl, ⟨rfl, ⟨rfl, ⟨rfl, ⟨rfl, ⟨rfl, ⟨rfl, ⟨rfl, ⟨rfl, ⟨rfl, ⟨rfl, ⟨rfl, ⟨rfl, ⟨rfl, ⟨rfl, ⟨rfl, ⟨rfl, ⟨rfl, ⟨rfl, ⟨rfl, ⟨rfl, ⟨rfl, ⟨rfl, ⟨rfl, ⟨rfl, ⟨rfl, ⟨rfl, ⟨rfl, ⟨rfl, ⟨rfl, ⟨rfl, ⟨rfl, ⟨rfl, ⟨rfl, trivial⟩⟩⟩⟩⟩⟩⟩⟩⟩⟩⟩⟩⟩⟩⟩⟩⟩⟩⟩⟩⟩⟩⟩⟩⟩⟩⟩⟩⟩⟩⟩⟩⟩⟩⟩⟩⟩⟩⟩⟩⟩⟩⟩⟩⟩⟩⟩⟩⟩⟩⟩⟩⟩⟩⟩⟩⟩⟩⟩⟩⟩⟩⟩⟩⟩⟩⟩⟩⟩⟩⟩⟩⟩⟩⟩⟩⟩⟩⟩⟩⟩⟩⟩⟩⟩⟩⟩⟩⟩⟩⟩⟩⟩⟩⟩⟩⟩⟩⟩⟩⟩⟩⟩⟩⟩⟩⟩⟩⟩⟩⟩⟩⟩⟩⟩⟩⟩⟩⟩⟩⟩⟩⟩⟩⟩⟩⟩⟩⟩⟩⟩⟩⟩⟩⟩⟩⟩⟩⟩⟩⟩⟩⟩⟩⟩⟩), rfl⟩
theorem zok34 : ∃ i, E.ty 34 = some i ∧ (.agg [(.int .i64 0), (.int .i64 0), (.bool false), (.agg [(.int .i64 0), (.arr 3 8 (Vector.replicate 8 (default : Int))), (.arr 2 8 (Vector.replicate 8 (default : Int))), (.arr 3 8 (Vector.replicate 8 (default : Int)))]), (.int .i64 0), (.arr 2 8 (Vector.replicate 8 (default : Int))), (.arr 2 8 (Vector.replicate 8 (default : Int))), (.nil .slice), (.nil .slice), (.int .i64 0), (.arr 2 8 (Vector.replicate 8 (default : Int))), (.arr 28 8 (Vector.replicate 8 (default : List (GOp)))), (.arr 24 8 (Vector.replicate 8 (default : Vector (Int) 8))), (.arr 2 8 (Vector.replicate 8 (default : Int))), (.arr 2 8 (Vector.replicate 8 (default : Int))), (.arr 2 8 (Vector.replicate 8 (default : Int))), (.nil .slice), (.nil .slice)] : TV τ).ok = true ∧ CW i.zero ((.agg [(.int .i64 0), (.int .i64 0), (.bool false), (.agg [(.int .i64 0), (.arr 3 8 (Vector.replicate 8 (default : Int))), (.arr 2 8 (Vector.replicate 8 (default : Int))), (.arr 3 8 (Vector.replicate 8 (default : Int)))]), (.int .i64 0), (.arr 2 8 (Vector.replicate 8 (default : Int))), (.arr 2 8 (Vector.replicate 8 (default : Int))), (.nil .slice), (.nil .slice), (.int .i64 0), (.arr 2 8 (Vector.replicate 8 (default : Int))), (.arr 28 8 (Vector.replicate 8 (default : List (GOp)))), (.arr 24 8 (Vector.replicate 8 (default : Vector (Int) 8))), (.arr 2 8 (Vector.replicate 8 (default : Int))), (.arr 2 8 (Vector.replicate 8 (default : Int))), (.arr 2 8 (Vector.replicate 8 (default : Int))), (.nil .slice), (.nil .slice)] : TV τ).cells C) ∧ (.agg [(.int .i64 0), (.int .i64 0), (.bool false), (.agg [(.int .i64 0), (.arr 3 8 (Vector.replicate 8 (default : Int))), (.arr 2 8 (Vector.replicate 8 (default : Int))), (.arr 3 8 (Vector.replicate 8 (default : Int)))]), (.int .i64 0), (.arr 2 8 (Vector.replicate 8 (default : Int))), (.arr 2 8 (Vector.replicate 8 (default : Int))), (.nil .slice), (.nil .slice), (.int .i64 0), (.arr 2 8 (Vector.replicate 8 (default : Int))), (.arr 28 8 (Vector.replicate 8 (default : List (GOp)))), (.arr 24 8 (Vector.replicate 8 (default : Vector (Int) 8))), (.arr 2 8 (Vector.replicate 8 (default : Int))), (.arr 2 8 (Vector.replicate 8 (default : Int))), (.arr 2 8 (Vector.replicate 8 (default : Int))), (.nil .slice), (.nil .slice)] : TV τ).isAgg = i.agg := ⟨ti34, rfl, rfl, (show ((.agg [(.int .i64 0), (.int .i64 0), (.bool false), (.agg [(.int .i64 0), (.arr 3 8 (Vector.replicate 8 (default : Int))), (.arr 2 8 (Vector.replicate 8 (default : Int))), (.arr 3 8 (Vector.replicate 8 (default : Int)))]), (.int .i64 0), (.arr 2 8 (Vector.replicate 8 (default : Int))), (.arr 2 8 (Vector.replicate 8 (default : Int))), (.nil .slice), (.nil .slice), (.int .i64 0), (.arr 2 8 (Vector.replicate 8 (default : Int))), (.arr 28 8 (Vector.replicate 8 (default : List (GOp)))), (.arr 24 8 (Vector.replicate 8 (default : Vector (Int) 8))), (.arr 2 8 (Vector.replicate 8 (default : Int))), (.arr 2 8 (Vector.replicate 8 (default : Int))), (.arr 2 8 (Vector.replicate 8 (default : Int))), (.nil .slice), (.nil .slice)] : TV τ).cells C) = [.v (.int .i64 0), .v (.int .i64 0), .v (.bool false), .v (.int .i64 0), .v (.int .i64 0), .v (.int .i64 0), .v (.int .i64 0), .v (.int .i64 0), .v (.int .i64 0), .v (.int .i64 0), .v (.int .i64 0), .v (.int .i64 0), .v (.int .i64 0), .v (.int .i64 0), .v (.int .i64 0), .v (.int .i64 0), .v (.int .i64 0), .v (.int .i64 0), .v (.int .i64 0), .v (.int .i64 0), .v (.int .i64 0), .v (.int .i64 0), .v (.int .i64 0), .v (.int .i64 0), .v (.int .i64 0), .v (.int .i64 0), .v (.int .i64 0), .v (.int .i64 0), .v (.int .i64 0), .v (.int .i64 0), .v (.int .i64 0), .v (.int .i64 0), .v (.int .i64 0), .v (.int .i64 0), .v (.int .i64 0), .v (.int .i64 0), .v (.int .i64 0), .v (.int .i64 0), .v (.int .i64 0), .v (.int .i64 0), .v (.int .i64 0), .v (.int .i64 0), .v (.int .i64 0), .v (.int .i64 0), .v (.int .i64 0), .v (.slice none 0 0), .v (.slice none 0 0), .v (.int .i64 0), .v (.int .i64 0), .v (.int .i64 0), .v (.int .i64 0), .v (.int .i64 0), .v (.int .i64 0), .v (.int .i64 0), .v (.int .i64 0), .v (.int .i64 0), .asl 8 [], .asl 8 [], .asl 8 [], .asl 8 [], .asl 8 [], .asl 8 [], .asl 8 [], .asl 8 [], .v (.int .i64 0), .v (.int .i64 0), .v (.int .i64 0), .v (.int .i64 0), .v (.int .i64 0), .v (.int .i64 0), .v (.int .i64 0), .v (.int .i64 0), .v (.int .i64 0), .v (.int .i64 0), .v (.int .i64 0), .v (.int .i64 0), .v (.int .i64 0), .v (.int .i64 0), .v (.int .i64 0), .v (.int .i64 0), .v (.int .i64 0), .v (.int .i64 0), .v (.int .i64 0), .v (.int .i64 0), .v (.int .i64 0), .v (.int .i64 0), .v (.int .i64 0), .v (.int .i64 0), .v (.int .i64 0), .v (.int .i64 0), .v (.int .i64 0), .v (.int .i64 0), .v (.int .i64 0), .v (.int .i64 0), .v (.int .i64 0), .v (.int .i64 0), .v (.int .i64 0), .v (.int .i64 0), .v (.int .i64 0), .v (.int .i64 0), .v (.int .i64 0), .v (.int .i64 0), .v (.int .i64 0), .v (.int .i64 0), .v (.int .i64 0), .v (.int .i64 0), .v (.int .i64 0), .v (.int .i64 0), .v (.int .i64 0), .v (.int .i64 0), .v (.int .i64 0), .v (.int .i64 0), .v (.int .i64 0), .v (.int .i64 0), .v (.int .i64 0), .v (.int .i64 0), .v (.int .i64 0), .v (.int .i64 0), .v (.int .i64 0), .v (.int .i64 0), .v (.int .i64 0), .v (.int .i64 0), .v (.int .i64 0), .v (.int .i64 0), .v (.int .i64 0), .v (.int .i64 0), .v (.int .i64 0), .v (.int .i64 0), .v (.int .i64 0), .v (.int .i64 0), .v (.int .i64 0), .v (.int .i64 0), .v (.int .i64 0), .v (.int .i64 0), .v (.int .i64 0), .v (.int .i64 0), .v (.int .i64 0), .v (.int .i64 0), .v (.int .i64 0), .v (.int .i64 0), .v (.int .i64 0), .v (.int .i64 0), .v (.int .i64 0), .v (.int .i64 0), .v (.int .i64 0), .v (.int .i64 0), .v (.int .i64 0), .v (.int .i64 0), .v (.int .i64 0), .v (.int .i64 0), .v (.int .i64 0), .v (.int .i64 0), .v (.slice none 0 0), .v (.slice none 0 0)] from by kernel_rfl) ▸ zz_cw (⟨rfl, ⟨rfl, ⟨rfl, ⟨rfl, ⟨rfl, ⟨rfl, ⟨rfl, ⟨rfl, ⟨rfl, ⟨rfl, ⟨rfl, ⟨rfl, ⟨rfl, ⟨rfl, ⟨rfl, ⟨rfl, ⟨rfl, ⟨rfl, ⟨rfl, ⟨rfl, ⟨rfl, ⟨rfl, ⟨rfl, ⟨rfl, ⟨rfl, ⟨rfl, ⟨rfl, ⟨rfl, ⟨rfl, ⟨rfl, ⟨rfl, ⟨rfl, ⟨rfl, ⟨rfl, ⟨rfl, ⟨rfl, ⟨rfl, ⟨rfl, ⟨rfl, ⟨rfl, ⟨rfl, ⟨rfl, ⟨rfl, ⟨rfl, ⟨rfl, ⟨rfl, ⟨rfl, ⟨rfl, ⟨rfl, ⟨rfl, ⟨rfl, ⟨rfl, ⟨rfl, ⟨rfl, ⟨rfl, ⟨rfl, ⟨rfl, ⟨rfl, ⟨rfl, ⟨rfl, ⟨rfl, ⟨rfl, ⟨rfl, ⟨rfl, ⟨rfl, ⟨rfl, ⟨rfl, ⟨rfl, ⟨rfl, ⟨rfl, ⟨rfl, ⟨rfl, ⟨rfl, ⟨rfl, ⟨rfl, ⟨rfl, ⟨rfl, ⟨rfl, ⟨rfl, ⟨rfl, ⟨rfl, ⟨rfl, ⟨rfl, ⟨rfl, ⟨rfl, ⟨rfl, ⟨rfl, ⟨rfl, ⟨rfl, ⟨rfl, ⟨rfl, ⟨rfl, ⟨rfl, ⟨rfl, ⟨rfl, ⟨rfl, ⟨rfl, ⟨rfl, ⟨rfl, ⟨rfl, ⟨rfl, ⟨rfl, ⟨rfl, ⟨rfl, ⟨rfl, ⟨rfl, ⟨rfl, ⟨rfl, ⟨rfl, ⟨rfl, ⟨rfl, ⟨rfl, ⟨rfl, ⟨rfl, ⟨rfl, ⟨rfl, ⟨rfl, ⟨rfl, ⟨rfl, ⟨rfl, ⟨rfl, ⟨rfl, ⟨rfl, ⟨rfl, ⟨rfl, ⟨rfl, ⟨rfl, ⟨rfl, ⟨rfl, ⟨rfl, ⟨rfl, ⟨rfl, ⟨rfl, ⟨rfl, ⟨rfl, ⟨rfl, ⟨rfl, ⟨rfl, ⟨rfl, ⟨rfl, ⟨rfl, ⟨rfl, ⟨rfl, ⟨rfl, ⟨rfl, ⟨rfl, trivial⟩⟩⟩⟩⟩⟩⟩⟩⟩⟩⟩⟩⟩⟩⟩⟩⟩⟩⟩⟩⟩⟩⟩⟩⟩⟩⟩⟩⟩⟩⟩⟩⟩⟩⟩⟩⟩⟩⟩⟩⟩⟩⟩⟩⟩⟩⟩⟩⟩⟩⟩⟩⟩⟩⟩⟩⟩⟩⟩⟩⟩⟩⟩⟩⟩⟩⟩⟩⟩⟩⟩⟩⟩⟩⟩⟩⟩⟩⟩⟩⟩⟩⟩⟩⟩⟩⟩⟩⟩⟩⟩⟩⟩⟩⟩⟩⟩⟩⟩⟩⟩⟩⟩⟩⟩⟩⟩⟩⟩⟩⟩⟩⟩⟩⟩⟩⟩⟩⟩⟩⟩⟩⟩⟩⟩⟩⟩⟩⟩⟩⟩⟩⟩⟩⟩⟩⟩⟩⟩⟩⟩⟩⟩⟩⟩⟩), rfl⟩
theorem zok40 : ∃ i, E.ty 40 = some i ∧ (.agg [(.int .i64 0), (.int .i64 0)] : TV τ).ok = true ∧ CW i.zero ((.agg [(.int .i64 0), (.int .i64 0)] : TV τ).cells C) ∧ (.agg [(.int .i64 0), (.int .i64 0)] : TV τ).isAgg = i.agg := ⟨ti40, rfl, rfl, CW.of_eq (by kernel_rfl), rfl⟩
theorem zok41 : ∃ i, E.ty 41 = some i ∧ (.agg [(.int .i64 0), (.int .i64 0)] : TV τ).ok = true ∧ CW i.zero ((.agg [(.int .i64 0), (.int .i64 0)] : TV τ).cells C) ∧ (.agg [(.int .i64 0), (.int .i64 0)] : TV τ).isAgg = i.agg := ⟨ti41, rfl, rfl, CW.of_eq (by kernel_rfl), rfl⟩
theorem zok42 : ∃ i, E.ty 42 = some i ∧ (.agg [(.agg [(.int .i64 0), (.int .i64 0)]), (.int .i64 0), (.int .i64 0), (.int .i64 0), (.str []), (.str []), (.str [])] : TV τ).ok = true ∧ CW i.zero ((.agg [(.agg [(.int .i64 0), (.int .i64 0)]), (.int .i64 0), (.int .i64 0), (.int .i64 0), (.str []), (.str []), (.str [])] : TV τ).cells C) ∧ (.agg [(.agg [(.int .i64 0), (.int .i64 0)]), (.int .i64 0), (.int .i64 0), (.int .i64 0), (.str []), (.str []), (.str [])] : TV τ).isAgg = i.agg := ⟨ti42, rfl, rfl, CW.of_eq (by kernel_rfl), rfl⟩
theorem zok43 : ∃ i, E.ty 43 = some i ∧ (.agg [(.agg [(.int .i64 0), (.int .i64 0)]), (.int .i64 0), (.int .i64 0), (.int .i64 0), (.str []), (.str []), (.str [])] : TV τ).ok = true ∧ CW i.zero ((.agg [(.agg [(.int .i64 0), (.int .i64 0)]), (.int .i64 0), (.int .i64 0), (.int .i64 0), (.str []), (.str []), (.str [])] : TV τ).cells C) ∧ (.agg [(.agg [(.int .i64 0), (.int .i64 0)]), (.int .i64 0), (.int .i64 0), (.int .i64 0), (.str []), (.str []), (.str [])] : TV τ).isAgg = i.agg := ⟨ti43, rfl, rfl, CW.of_eq (by kernel_rfl), rfl⟩
theorem zok44 : ∃ i, E.ty 44 = some i ∧ (.agg [(.int .i64 0), (.int .i64 0)] : TV τ).ok = true ∧ CW i.zero ((.agg [(.int .i64 0), (.int .i64 0)] : TV τ).cells C) ∧ (.agg [(.int .i64 0), (.int .i64 0)] : TV τ).isAgg = i.agg := ⟨ti44, rfl, rfl, CW.of_eq (by kernel_rfl), rfl⟩
theorem zok45 : ∃ i, E.ty 45 = some i ∧ (.agg [(.int .i64 0), (.int .i64 0)] : TV τ).ok = true ∧ CW i.zero ((.agg [(.int .i64 0), (.int .i64 0)] : TV τ).cells C) ∧ (.agg [(.int .i64 0), (.int .i64 0)] : TV τ).isAgg = i.agg := ⟨ti45, rfl, rfl, CW.of_eq (by kernel_rfl), rfl⟩
theorem zok46 : ∃ i, E.ty 46 = some i ∧ (.agg [(.int .i64 0), (.int .i64 0)] : TV τ).ok = true ∧ CW i.zero ((.agg [(.int .i64 0), (.int .i64 0)] : TV τ).cells C) ∧ (.agg [(.int .i64 0), (.int .i64 0)] : TV τ).isAgg = i.agg := ⟨ti46, rfl, rfl, CW.of_eq (by kernel_rfl), rfl⟩
theorem zok47 : ∃ i, E.ty 47 = some i ∧ (.agg [(.int .i64 0), (.int .i64 0)] : TV τ).ok = true ∧ CW i.zero ((.agg [(.int .i64 0), (.int .i64 0)] : TV τ).cells C) ∧ (.agg [(.int .i64 0), (.int .i64 0)] : TV τ).isAgg = i.agg := ⟨ti47, rfl, rfl, CW.of_eq (by kernel_rfl), rfl⟩
theorem zok48 : ∃ i, E.ty 48 = some i ∧ (.nil .slice : TV τ).ok = true ∧ CW i.zero ((.nil .slice : TV τ).cells C) ∧ (.nil .slice : TV τ).isAgg = i.agg := ⟨ti48, rfl, rfl, CW.of_eq (by kernel_rfl), rfl⟩
theorem zok49 : ∃ i, E.ty 49 = some i ∧ (.nil .slice : TV τ).ok = true ∧ CW i.zero ((.nil .slice : TV τ).cells C) ∧ (.nil .slice : TV τ).isAgg = i.agg := ⟨ti49, rfl, rfl, CW.of_eq (by kernel_rfl), rfl⟩
theorem zok50 : ∃ i, E.ty 50 = some i ∧ (.agg [(.int .i64 0), (.int .i64 0), (.int .i64 0), (.nil .slice)] : TV τ).ok = true ∧ CW i.zero ((.agg [(.int .i64 0), (.int .i64 0), (.int .i64 0), (.nil .slice)] : TV τ).cells C) ∧ (.agg [(.int .i64 0), (.int .i64 0), (.int .i64 0), (.nil .slice)] : TV τ).isAgg = i.agg := ⟨ti50, rfl, rfl, CW.of_eq (by kernel_rfl), rfl⟩
theorem zok51 : ∃ i, E.ty 51 = some i ∧ (.agg [(.int .i64 0), (.int .i64 0), (.int .i64 0), (.nil .slice)] : TV τ).ok = true ∧ CW i.zero ((.agg [(.int .i64 0), (.int .i64 0), (.int .i64 0), (.nil .slice)] : TV τ).cells C) ∧ (.agg [(.int .i64 0), (.int .i64 0), (.int .i64 0), (.nil .slice)] : TV τ).isAgg = i.agg := ⟨ti51, rfl, rfl, CW.of_eq (by kernel_rfl), rfl⟩
theorem zok52 : ∃ i, E.ty 52 = some i ∧ (.agg [(.int .i64 0), (.int .i64 0), (.int .i64 0), (.agg [(.agg [(.int .i64 0), (.int .i64 0)]), (.int .i64 0), (.int .i64 0), (.int .i64 0), (.str []), (.str []), (.str [])]), (.int .i64 0), (.int .i64 0), (.nil .slice), (.agg [(.int .i64 0), (.arr 3 8 (Vector.replicate 8 (default : Int))), (.arr 2 8 (Vector.replicate 8 (default : Int))), (.arr 3 8 (Vector.replicate 8 (default : Int)))]), (.int .i64 0), (.arr 2 8 (Vector.replicate 8 (default : Int))), (.int .i64 0), (.agg [(.int .i64 0), (.int .i64 0), (.int .i64 0), (.nil .slice)]), (.int .i64 0), (.int .i64 0), (.int .i64 0)] : TV τ).ok = true ∧ CW i.zero ((.agg [(.int .i64 0), (.int .i64 0), (.int .i64 0), (.agg [(.agg [(.int .i64 0), (.int .i64 0)]), (.int .i64 0), (.int .i64 0), (.int .i64 0), (.str []), (.str []), (.str [])]), (.int .i64 0), (.int .i64 0), (.nil .slice), (.agg [(.int .i64 0), (.arr 3 8 (Vector.replicate 8 (default : Int))), (.arr 2 8 (Vector.replicate 8 (default : Int))), (.arr 3 8 (Vector.replicate 8 (default : Int)))]), (.int .i64 0), (.arr 2 8 (Vector.replicate 8 (default : Int))), (.int .i64 0), (.agg [(.int .i64 0), (.int .i64 0), (.int .i64 0), (.nil .slice)]), (.int .i64 0), (.int .i64 0), (.int .i64 0)] : TV τ).cells C) ∧ (.agg [(.int .i64 0), (.int .i64 0), (.int .i64 0), (.agg [(.agg [(.int .i64 0), (.int .i64 0)]), (.int .i64 0), (.int .i64 0), (.int .i64 0), (.str []), (.str []), (.str [])]), (.int .i64 0), (.int .i64 0), (.nil .slice), (.agg [(.int .i64 0), (.arr 3 8 (Vector.replicate 8 (default : Int))), (.arr 2 8 (Vector.replicate 8 (default : Int))), (.arr 3 8 (Vector.replicate 8 (default : Int)))]), (.int .i64 0), (.arr 2 8 (Vector.replicate 8 (default : Int))), (.int .i64 0), (.agg [(.int .i64 0), (.int .i64 0), (.int .i64 0), (.nil .slice)]), (.int .i64 0), (.int .i64 0), (.int .i64 0)] : TV τ).isAgg = i.agg := ⟨ti52, rfl, rfl, CW.of_eq (by kernel_rfl), rfl⟩
theorem zok53 : ∃ i, E.ty 53 = some i ∧ (.agg [(.int .i64 0), (.int .i64 0), (.int .i64 0), (.agg [(.agg [(.int .i64 0), (.int .i64 0)]), (.int .i64 0), (.int .i64 0), (.int .i64 0), (.str []), (.str []), (.str [])]), (.int .i64 0), (.int .i64 0), (.nil .slice), (.agg [(.int .i64 0), (.arr 3 8 (Vector.replicate 8 (default : Int))), (.arr 2 8 (Vector.replicate 8 (default : Int))), (.arr 3 8 (Vector.replicate 8 (default : Int)))]), (.int .i64 0), (.arr 2 8 (Vector.replicate 8 (default : Int))), (.int .i64 0), (.agg [(.int .i64 0), (.int .i64 0), (.int .i64 0), (.nil .slice)]), (.int .i64 0), (.int .i64 0), (.int .i64 0)] : TV τ).ok = true ∧ CW i.zero ((.agg [(.int .i64 0), (.int .i64 0), (.int .i64 0), (.agg [(.agg [(.int .i64 0), (.int .i64 0)]), (.int .i64 0), (.int .i64 0), (.int .i64 0), (.str []), (.str []), (.str [])]), (.int .i64 0), (.int .i64 0), (.nil .slice), (.agg [(.int .i64 0), (.arr 3 8 (Vector.replicate 8 (default : Int))), (.arr 2 8 (Vector.replicate 8 (default : Int))), (.arr 3 8 (Vector.replicate 8 (default : Int)))]), (.int .i64 0), (.arr 2 8 (Vector.replicate 8 (default : Int))), (.int .i64 0), (.agg [(.int .i64 0), (.int .i64 0), (.int .i64 0), (.nil .slice)]), (.int .i64 0), (.int .i64 0), (.int .i64 0)] : TV τ).cells C) ∧ (.agg [(.int .i64 0), (.int .i64 0), (.int .i64 0), (.agg [(.agg [(.int .i64 0), (.int .i64 0)]), (.int .i64 0), (.int .i64 0), (.int .i64 0), (.str []), (.str []), (.str [])]), (.int .i64 0), (.int .i64 0), (.nil .slice), (.agg [(.int .i64 0), (.arr 3 8 (Vector.replicate 8 (default : Int))), (.arr 2 8 (Vector.replicate 8 (default : Int))), (.arr 3 8 (Vector.replicate 8 (default : Int)))]), (.int .i64 0), (.arr 2 8 (Vector.replicate 8 (default : Int))), (.int .i64 0), (.agg [(.int .i64 0), (.int .i64 0), (.int .i64 0), (.nil .slice)]), (.int .i64 0), (.int .i64 0), (.int .i64 0)] : TV τ).isAgg = i.agg := ⟨ti53, rfl, rfl, CW.of_eq (by kernel_rfl), rfl⟩
theorem zok54 : ∃ i, E.ty 54 = some i ∧ (.agg [(.int .i64 0), (.agg [(.int .i64 0), (.int .i64 0)]), (.agg [(.int .i64 0), (.int .i64 0)]), (.agg [(.int .i64 0), (.int .i64 0)]), (.int .i64 0), (.nil .slice), (.agg [(.int .i64 0), (.int .i64 0), (.int .i64 0), (.agg [(.agg [(.int .i64 0), (.int .i64 0)]), (.int .i64 0), (.int .i64 0), (.int .i64 0), (.str []), (.str []), (.str [])]), (.int .i64 0), (.int .i64 0), (.nil .slice), (.agg [(.int .i64 0), (.arr 3 8 (Vector.replicate 8 (default : Int))), (.arr 2 8 (Vector.replicate 8 (default : Int))), (.arr 3 8 (Vector.replicate 8 (default : Int)))]), (.int .i64 0), (.arr 2 8 (Vector.replicate 8 (default : Int))), (.int .i64 0), (.agg [(.int .i64 0), (.int .i64 0), (.int .i64 0), (.nil .slice)]), (.int .i64 0), (.int .i64 0), (.int .i64 0)]), (.int .i64 0), (.arr 2 8 (Vector.replicate 8 (default : Int))), (.int .i64 0), (.int .i64 0), (.nil .slice), (.agg [(.int .i64 0), (.arr 3 8 (Vector.replicate 8 (default : Int))), (.arr 2 8 (Vector.replicate 8 (default : Int))), (.arr 3 8 (Vector.replicate 8 (default : Int)))]), (.agg [(.int .i64 0), (.int .i64 0), (.int .i64 0), (.nil .slice)])] : TV τ).ok = true ∧ CW i.zero ((.agg [(.int .i64 0), (.agg [(.int .i64 0), (.int .i64 0)]), (.agg [(.int .i64 0), (.int .i64 0)]), (.agg [(.int .i64 0), (.int .i64 0)]), (.int .i64 0), (.nil .slice), (.agg [(.int .i64 0), (.int .i64 0), (.int .i64 0), (.agg [(.agg [(.int .i64 0), (.int .i64 0)]), (.int .i64 0), (.int .i64 0), (.int .i64 0), (.str []), (.str []), (.str [])]), (.int .i64 0), (.int .i64 0), (.nil .slice), (.agg [(.int .i64 0), (.arr 3 8 (Vector.replicate 8 (default : Int))), (.arr 2 8 (Vector.replicate 8 (default : Int))), (.arr 3 8 (Vector.replicate 8 (default : Int)))]), (.int .i64 0), (.arr 2 8 (Vector.replicate 8 (default : Int))), (.int .i64 0), (.agg [(.int .i64 0), (.int .i64 0), (.int .i64 0), (.nil .slice)]), (.int .i64 0), (.int .i64 0), (.int .i64 0)]), (.int .i64 0), (.arr 2 8 (Vector.replicate 8 (default : Int))), (.int .i64 0), (.int .i64 0), (.nil .slice), (.agg [(.int .i64 0), (.arr 3 8 (Vector.replicate 8 (default : Int))), (.arr 2 8 (Vector.replicate 8 (default : Int))), (.arr 3 8 (Vector.replicate 8 (default : Int)))]), (.agg [(.int .i64 0), (.int .i64 0), (.int .i64 0), (.nil .slice)])] : TV τ).cells C) ∧ (.agg [(.int .i64 0), (.agg [(.int .i64 0), (.int .i64 0)]), (.agg [(.int .i64 0), (.int .i64 0)]), (.agg [(.int .i64 0), (.int .i64 0)]), (.int .i64 0), (.nil .slice), (.agg [(.int .i64 0), (.int .i64 0), (.int .i64 0), (.agg [(.agg [(.int .i64 0), (.int .i64 0)]), (.int .i64 0), (.int .i64 0), (.int .i64 0), (.str []), (.str []), (.str [])]), (.int .i64 0), (.int .i64 0), (.nil .slice), (.agg [(.int .i64 0), (.arr 3 8 (Vector.replicate 8 (default : Int))), (.arr 2 8 (Vector.replicate 8 (default : Int))), (.arr 3 8 (Vector.replicate 8 (default : Int)))]), (.int .i64 0), (.arr 2 8 (Vector.replicate 8 (default : Int))), (.int .i64 0), (.agg [(.int .i64 0), (.int .i64 0), (.int .i64 0), (.nil .slice)]), (.int .i64 0), (.int .i64 0), (.int .i64 0)]), (.int .i64 0), (.arr 2 8 (Vector.replicate 8 (default : Int))), (.int .i64 0), (.int .i64 0), (.nil .slice), (.agg [(.int .i64 0), (.arr 3 8 (Vector.replicate 8 (default : Int))), (.arr 2 8 (Vector.replicate 8 (default : Int))), (.arr 3 8 (Vector.replicate 8 (default : Int)))]), (.agg [(.int .i64 0), (.int .i64 0), (.int .i64 0), (.nil .slice)])] : TV τ).isAgg = i.agg := ⟨ti54, rfl, rfl, CW.of_eq (by kernel_rfl), rfl⟩
theorem zok55 : ∃ i, E.ty 55 = some i ∧ (.agg [(.int .i64 0), (.agg [(.int .i64 0), (.int .i64 0)]), (.agg [(.int .i64 0), (.int .i64 0)]), (.agg [(.int .i64 0), (.int .i64 0)]), (.int .i64 0), (.nil .slice), (.agg [(.int .i64 0), (.int .i64 0), (.int .i64 0), (.agg [(.agg [(.int .i64 0), (.int .i64 0)]), (.int .i64 0), (.int .i64 0), (.int .i64 0), (.str []), (.str []), (.str [])]), (.int .i64 0), (.int .i64 0), (.nil .slice), (.agg [(.int .i64 0), (.arr 3 8 (Vector.replicate 8 (default : Int))), (.arr 2 8 (Vector.replicate 8 (default : Int))), (.arr 3 8 (Vector.replicate 8 (default : Int)))]), (.int .i64 0), (.arr 2 8 (Vector.replicate 8 (default : Int))), (.int .i64 0), (.agg [(.int .i64 0), (.int .i64 0), (.int .i64 0), (.nil .slice)]), (.int .i64 0), (.int .i64 0), (.int .i64 0)]), (.int .i64 0), (.arr 2 8 (Vector.replicate 8 (default : Int))), (.int .i64 0), (.int .i64 0), (.nil .slice), (.agg [(.int .i64 0), (.arr 3 8 (Vector.replicate 8 (default : Int))), (.arr 2 8 (Vector.replicate 8 (default : Int))), (.arr 3 8 (Vector.replicate 8 (default : Int)))]), (.agg [(.int .i64 0), (.int .i64 0), (.int .i64 0), (.nil .slice)])] : TV τ).ok = true ∧ CW i.zero ((.agg [(.int .i64 0), (.agg [(.int .i64 0), (.int .i64 0)]), (.agg [(.int .i64 0), (.int .i64 0)]), (.agg [(.int .i64 0), (.int .i64 0)]), (.int .i64 0), (.nil .slice), (.agg [(.int .i64 0), (.int .i64 0), (.int .i64 0), (.agg [(.agg [(.int .i64 0), (.int .i64 0)]), (.int .i64 0), (.int .i64 0), (.int .i64 0), (.str []), (.str []), (.str [])]), (.int .i64 0), (.int .i64 0), (.nil .slice), (.agg [(.int .i64 0), (.arr 3 8 (Vector.replicate 8 (default : Int))), (.arr 2 8 (Vector.replicate 8 (default : Int))), (.arr 3 8 (Vector.replicate 8 (default : Int)))]), (.int .i64 0), (.arr 2 8 (Vector.replicate 8 (default : Int))), (.int .i64 0), (.agg [(.int .i64 0), (.int .i64 0), (.int .i64 0), (.nil .slice)]), (.int .i64 0), (.int .i64 0), (.int .i64 0)]), (.int .i64 0), (.arr 2 8 (Vector.replicate 8 (default : Int))), (.int .i64 0), (.int .i64 0), (.nil .slice), (.agg [(.int .i64 0), (.arr 3 8 (Vector.replicate 8 (default : Int))), (.arr 2 8 (Vector.replicate 8 (default : Int))), (.arr 3 8 (Vector.replicate 8 (default : Int)))]), (.agg [(.int .i64 0), (.int .i64 0), (.int .i64 0), (.nil .slice)])] : TV τ).cells C) ∧ (.agg [(.int .i64 0), (.agg [(.int .i64 0), (.int .i64 0)]), (.agg [(.int .i64 0), (.int .i64 0)]), (.agg [(.int .i64 0), (.int .i64 0)]), (.int .i64 0), (.nil .slice), (.agg [(.int .i64 0), (.int .i64 0), (.int .i64 0), (.agg [(.agg [(.int .i64 0), (.int .i64 0)]), (.int .i64 0), (.int .i64 0), (.int .i64 0), (.str []), (.str []), (.str [])]), (.int .i64 0), (.int .i64 0), (.nil .slice), (.agg [(.int .i64 0), (.arr 3 8 (Vector.replicate 8 (default : Int))), (.arr 2 8 (Vector.replicate 8 (default : Int))), (.arr 3 8 (Vector.replicate 8 (default : Int)))]), (.int .i64 0), (.arr 2 8 (Vector.replicate 8 (default : Int))), (.int .i64 0), (.agg [(.int .i64 0), (.int .i64 0), (.int .i64 0), (.nil .slice)]), (.int .i64 0), (.int .i64 0), (.int .i64 0)]), (.int .i64 0), (.arr 2 8 (Vector.replicate 8 (default : Int))), (.int .i64 0), (.int .i64 0), (.nil .slice), (.agg [(.int .i64 0), (.arr 3 8 (Vector.replicate 8 (default : Int))), (.arr 2 8 (Vector.replicate 8 (default : Int))), (.arr 3 8 (Vector.replicate 8 (default : Int)))]), (.agg [(.int .i64 0), (.int .i64 0), (.int .i64 0), (.nil .slice)])] : TV τ).isAgg = i.agg := ⟨ti55, rfl, rfl, CW.of_eq (by kernel_rfl), rfl⟩
theorem zok56 : ∃ i, E.ty 56 = some i ∧ (.int .i64 0 : TV τ).ok = true ∧ CW i.zero ((.int .i64 0 : TV τ).cells C) ∧ (.int .i64 0 : TV τ).isAgg = i.agg := ⟨ti56, rfl, rfl, CW.of_eq (by kernel_rfl), rfl⟩
theorem zok60 : ∃ i, E.ty 60 = some i ∧ (.nil .slice : TV τ).ok = true ∧ CW i.zero ((.nil .slice : TV τ).cells C) ∧ (.nil .slice : TV τ).isAgg = i.agg := ⟨ti60, rfl, rfl, CW.of_eq (by kernel_rfl), rfl⟩
theorem zok96 : ∃ i, E.ty 96 = some i ∧ (.nil .slice : TV τ).ok = true ∧ CW i.zero ((.nil .slice : TV τ).cells C) ∧ (.nil .slice : TV τ).isAgg = i.agg := ⟨ti96, rfl, rfl, CW.of_eq (by kernel_rfl), rfl⟩
theorem zok98 : ∃ i, E.ty 98 = some i ∧ (.agg [(.int .i64 0), (.int .i64 0), (.str []), (.nil .slice)] : TV τ).ok = true ∧ CW i.zero ((.agg [(.int .i64 0), (.int .i64 0), (.str []), (.nil .slice)] : TV τ).cells C) ∧ (.agg [(.int .i64 0), (.int .i64 0), (.str []), (.nil .slice)] : TV τ).isAgg = i.agg := ⟨ti98, rfl, rfl, CW.of_eq (by kernel_rfl), rfl⟩
theorem zok101 : ∃ i, E.ty 101 = some i ∧ (.agg [(.int .i64 0), (.agg [(.int .i64 0), (.int .i64 0)]), (.agg [(.int .i64 0), (.int .i64 0), (.int .i64 0), (.agg [(.agg [(.int .i64 0), (.int .i64 0)]), (.int .i64 0), (.int .i64 0), (.int .i64 0), (.str []), (.str []), (.str [])]), (.int .i64 0), (.int .i64 0), (.nil .slice), (.agg [(.int .i64 0), (.arr 3 8 (Vector.replicate 8 (default : Int))), (.arr 2 8 (Vector.replicate 8 (default : Int))), (.arr 3 8 (Vector.replicate 8 (default : Int)))]), (.int .i64 0), (.arr 2 8 (Vector.replicate 8 (default : Int))), (.int .i64 0), (.agg [(.int .i64 0), (.int .i64 0), (.int .i64 0), (.nil .slice)]), (.int .i64 0), (.int .i64 0), (.int .i64 0)])] : TV τ).ok = true ∧ CW i.zero ((.agg [(.int .i64 0), (.agg [(.int .i64 0), (.int .i64 0)]), (.agg [(.int .i64 0), (.int .i64 0), (.int .i64 0), (.agg [(.agg [(.int .i64 0), (.int .i64 0)]), (.int .i64 0), (.int .i64 0), (.int .i64 0), (.str []), (.str []), (.str [])]), (.int .i64 0), (.int .i64 0), (.nil .slice), (.agg [(.int .i64 0), (.arr 3 8 (Vector.replicate 8 (default : Int))), (.arr 2 8 (Vector.replicate 8 (default : Int))), (.arr 3 8 (Vector.replicate 8 (default : Int)))]), (.int .i64 0), (.arr 2 8 (Vector.replicate 8 (default : Int))), (.int .i64 0), (.agg [(.int .i64 0), (.int .i64 0), (.int .i64 0), (.nil .slice)]), (.int .i64 0), (.int .i64 0), (.int .i64 0)])] : TV τ).cells C) ∧ (.agg [(.int .i64 0), (.agg [(.int .i64 0), (.int .i64 0)]), (.agg [(.int .i64 0), (.int .i64 0), (.int .i64 0), (.agg [(.agg [(.int .i64 0), (.int .i64 0)]), (.int .i64 0), (.int .i64 0), (.int .i64 0), (.str []), (.str []), (.str [])]), (.int .i64 0), (.int .i64 0), (.nil .slice), (.agg [(.int .i64 0), (.arr 3 8 (Vector.replicate 8 (default : Int))), (.arr 2 8 (Vector.replicate 8 (default : Int))), (.arr 3 8 (Vector.replicate 8 (default : Int)))]), (.int .i64 0), (.arr 2 8 (Vector.replicate 8 (default : Int))), (.int .i64 0), (.agg [(.int .i64 0), (.int .i64 0), (.int .i64 0), (.nil .slice)]), (.int .i64 0), (.int .i64 0), (.int .i64 0)])] : TV τ).isAgg = i.agg := ⟨ti101, rfl, rfl, CW.of_eq (by kernel_rfl), rfl⟩
theorem zok102 : ∃ i, E.ty 102 = some i ∧ (.nil .slice : TV τ).ok = true ∧ CW i.zero ((.nil .slice : TV τ).cells C) ∧ (.nil .slice : TV τ).isAgg = i.agg := ⟨ti102, rfl, rfl, CW.of_eq (by kernel_rfl), rfl⟩
theorem zok107 : ∃ i, E.ty 107 = some i ∧ (.nil .slice : TV τ).ok = true ∧ CW i.zero ((.nil .slice : TV τ).cells C) ∧ (.nil .slice : TV τ).isAgg = i.agg := ⟨ti107, rfl, rfl, CW.of_eq (by kernel_rfl), rfl⟩
theorem zok115 : ∃ i, E.ty 115 = some i ∧ (.nil .slice : TV τ).ok = true ∧ CW i.zero ((.nil .slice : TV τ).cells C) ∧ (.nil .slice : TV τ).isAgg = i.agg := ⟨ti115, rfl, rfl, CW.of_eq (by kernel_rfl), rfl⟩
theorem zok126 : ∃ i, E.ty 126 = some i ∧ (.nil .slice : TV τ).ok = true ∧ CW i.zero ((.nil .slice : TV τ).cells C) ∧ (.nil .slice : TV τ).isAgg = i.agg := ⟨ti126, rfl, rfl, CW.of_eq (by kernel_rfl), rfl⟩
theorem zok157 : ∃ i, E.ty 157 = some i ∧ (.agg [(.int .i64 0), (.agg [(.int .i64 0), (.int .i64 0)]), (.int .i64 0)] : TV τ).ok = true ∧ CW i.zero ((.agg [(.int .i64 0), (.agg [(.int .i64 0), (.int .i64 0)]), (.int .i64 0)] : TV τ).cells C) ∧ (.agg [(.int .i64 0), (.agg [(.int .i64 0), (.int .i64 0)]), (.int .i64 0)] : TV τ).isAgg = i.agg := ⟨ti157, rfl, rfl, CW.of_eq (by kernel_rfl), rfl⟩
theorem zok159 : ∃ i, E.ty 159 = some i ∧ (.agg [(.int .i64 0), (.int .i64 0), (.agg [(.int .i64 0), (.agg [(.int .i64 0), (.int .i64 0)]), (.int .i64 0)])] : TV τ).ok = true ∧ CW i.zero ((.agg [(.int .i64 0), (.int .i64 0), (.agg [(.int .i64 0), (.agg [(.int .i64 0), (.int .i64 0)]), (.int .i64 0)])] : TV τ).cells C) ∧ (.agg [(.int .i64 0), (.int .i64 0), (.agg [(.int .i64 0), (.agg [(.int .i64 0), (.int .i64 0)]), (.int .i64 0)])] : TV τ).isAgg = i.agg := ⟨ti159, rfl, rfl, CW.of_eq (by kernel_rfl), rfl⟩
theorem zok169 : ∃ i, E.ty 169 = some i ∧ (.agg [(.str []), (.str [])] : TV τ).ok = true ∧ CW i.zero ((.agg [(.str []), (.str [])] : TV τ).cells C) ∧ (.agg [(.str []), (.str [])] : TV τ).isAgg = i.agg := ⟨ti169, rfl, rfl, CW.of_eq (by kernel_rfl), rfl⟩
noncomputable def D0 : TEnv τ := ⟨E, C, zeroT⟩
theorem zeroOk : ∀ t x, zeroT t = some x → ∃ i, E.ty t = some i ∧ x.ok = true ∧ CW i.zero (x.cells C) ∧ x.isAgg = i.agg := by
  intro t x h
  unfold zeroT at h
  split at h <;> first
    | (cases h; first | exact zok2 | exact zok3 | exact zok4 | exact zok5 | exact zok9 | exact zok12 | exact zok21 | exact zok22 | exact zok23 | exact zok24 | exact zok25 | exact zok26 | exact zok27 | exact zok28 | exact zok29 | exact zok30 | exact zok31 | exact zok32 | exact zok33 | exact zok34 | exact zok40 | exact zok41 | exact zok42 | exact zok43 | exact zok44 | exact zok45 | exact zok46 | exact zok47 | exact zok48 | exact zok49 | exact zok50 | exact zok51 | exact zok52 | exact zok53 | exact zok54 | exact zok55 | exact zok56 | exact zok60 | exact zok96 | exact zok98 | exact zok101 | exact zok102 | exact zok107 | exact zok115 | exact zok126 | exact zok157 | exact zok159 | exact zok169)
    | cases h
theorem d0Ok : D0.Ok := ⟨eOk, eEq, cOk, zeroOk⟩
end Go.Proofs.Ytekpjhhbmjcbmaa
