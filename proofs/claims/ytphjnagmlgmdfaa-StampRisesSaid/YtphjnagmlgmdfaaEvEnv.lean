/-
The types of this seat's program, as the evaluator asks them. Written by wip/tools/gen_env.py.
-/
import Derived.Test.YtphjnagmlgmdfaaProg
import Derived.Test.YtphjnagmlgmdfaaEvU
import Derived.KernelRfl
set_option linter.unusedVariables false
namespace Go.Proofs.Ytphjnagmlgmdfaa
open Go Go.Ev

def ti1 : TI := ⟨.func #[] #[] false, 1, 8, [.v .nilFunc]⟩
def ti2 : TI := ⟨.int .i64, 1, 8, [.v (.int .i64 0)]⟩
def ti3 : TI := ⟨.int .i64, 1, 8, [.v (.int .i64 0)]⟩
def ti4 : TI := ⟨.bool, 1, 1, [.v (.bool false)]⟩
def ti5 : TI := ⟨.int .u8, 1, 1, [.v (.int .u8 0)]⟩
def ti9 : TI := ⟨.string, 1, 16, [.v (.string ⟨#[]⟩)]⟩
def ti12 : TI := ⟨.int .u64, 1, 8, [.v (.int .u64 0)]⟩
def ti15 : TI := ⟨.pointer 71, 1, 8, [.v (.pointer none)]⟩
def ti16 : TI := ⟨.pointer 74, 1, 8, [.v (.pointer none)]⟩
def ti17 : TI := ⟨.pointer 83, 1, 8, [.v (.pointer none)]⟩
def ti21 : TI := ⟨.int .i32, 1, 4, [.v (.int .i32 0)]⟩
def ti22 : TI := ⟨.struct #[⟨"Time", 2, 0, false, "", "", 0⟩, ⟨"Site", 3, 1, false, "", "", 8⟩], 2, 16, [.v (.int .i64 0), .v (.int .i64 0)]⟩
def ti23 : TI := ⟨.struct #[⟨"Time", 2, 0, false, "", "", 0⟩, ⟨"Site", 3, 1, false, "", "", 8⟩], 2, 16, [.v (.int .i64 0), .v (.int .i64 0)]⟩
def ti25 : TI := ⟨.func #[2] #[23, 4] false, 1, 8, [.v .nilFunc]⟩
def ti26 : TI := ⟨.func #[] #[4] false, 1, 8, [.v .nilFunc]⟩
def ti27 : TI := ⟨.func #[23] #[2] false, 1, 8, [.v .nilFunc]⟩
def ti28 : TI := ⟨.func #[23, 2] #[4] false, 1, 8, [.v .nilFunc]⟩
def ti29 : TI := ⟨.slice 31, 1, 24, [.v (.slice none 0 0)]⟩
def ti30 : TI := ⟨.array 8 2, 8, 64, [.v (.int .i64 0), .v (.int .i64 0), .v (.int .i64 0), .v (.int .i64 0), .v (.int .i64 0), .v (.int .i64 0), .v (.int .i64 0), .v (.int .i64 0)]⟩
def ti31 : TI := ⟨.array 8 2, 8, 64, [.v (.int .i64 0), .v (.int .i64 0), .v (.int .i64 0), .v (.int .i64 0), .v (.int .i64 0), .v (.int .i64 0), .v (.int .i64 0), .v (.int .i64 0)]⟩
def ti32 : TI := ⟨.func #[29] #[31] true, 1, 8, [.v .nilFunc]⟩
def ti33 : TI := ⟨.func #[31, 31] #[4] false, 1, 8, [.v .nilFunc]⟩
def ti34 : TI := ⟨.func #[29, 5] #[4] false, 1, 8, [.v .nilFunc]⟩
def ti35 : TI := ⟨.func #[31, 31, 31] #[4] false, 1, 8, [.v .nilFunc]⟩
def ti36 : TI := ⟨.func #[31] #[4] false, 1, 8, [.v .nilFunc]⟩
def ti37 : TI := ⟨.func #[29] #[31] false, 1, 8, [.v .nilFunc]⟩
def ti38 : TI := ⟨.func #[31] #[2] false, 1, 8, [.v .nilFunc]⟩
def ti39 : TI := ⟨.func #[29, 31, 31] #[4] false, 1, 8, [.v .nilFunc]⟩
def ti40 : TI := ⟨.func #[23] #[4] false, 1, 8, [.v .nilFunc]⟩
def ti41 : TI := ⟨.func #[23, 23] #[3] false, 1, 8, [.v .nilFunc]⟩
def ti42 : TI := ⟨.func #[23, 23] #[4] false, 1, 8, [.v .nilFunc]⟩
def ti43 : TI := ⟨.slice 23, 1, 24, [.v (.slice none 0 0)]⟩
def ti44 : TI := ⟨.func #[43] #[23] true, 1, 8, [.v .nilFunc]⟩
def ti45 : TI := ⟨.func #[43] #[23] false, 1, 8, [.v .nilFunc]⟩
def ti46 : TI := ⟨.func #[23, 23, 43] #[4] false, 1, 8, [.v .nilFunc]⟩
def ti47 : TI := ⟨.struct #[⟨"Stamp", 23, 0, false, "", "", 0⟩, ⟨"Kind", 3, 2, false, "", "", 16⟩, ⟨"Node", 2, 3, false, "", "", 24⟩, ⟨"Parent", 2, 4, false, "", "", 32⟩, ⟨"Name", 9, 5, false, "", "", 40⟩, ⟨"Key", 9, 6, false, "", "", 56⟩, ⟨"Value", 9, 7, false, "", "", 72⟩], 8, 88, [.v (.int .i64 0), .v (.int .i64 0), .v (.int .i64 0), .v (.int .i64 0), .v (.int .i64 0), .v (.string ⟨#[]⟩), .v (.string ⟨#[]⟩), .v (.string ⟨#[]⟩)]⟩
def ti48 : TI := ⟨.struct #[⟨"Stamp", 23, 0, false, "", "", 0⟩, ⟨"Kind", 3, 2, false, "", "", 16⟩, ⟨"Node", 2, 3, false, "", "", 24⟩, ⟨"Parent", 2, 4, false, "", "", 32⟩, ⟨"Name", 9, 5, false, "", "", 40⟩, ⟨"Key", 9, 6, false, "", "", 56⟩, ⟨"Value", 9, 7, false, "", "", 72⟩], 8, 88, [.v (.int .i64 0), .v (.int .i64 0), .v (.int .i64 0), .v (.int .i64 0), .v (.int .i64 0), .v (.string ⟨#[]⟩), .v (.string ⟨#[]⟩), .v (.string ⟨#[]⟩)]⟩
def ti49 : TI := ⟨.int .i64, 1, 8, [.v (.int .i64 0)]⟩
def ti50 : TI := ⟨.func #[48] #[49] false, 1, 8, [.v .nilFunc]⟩
def ti51 : TI := ⟨.func #[48] #[4] false, 1, 8, [.v .nilFunc]⟩
def ti52 : TI := ⟨.func #[53, 29] #[31] true, 1, 8, [.v .nilFunc]⟩
def ti53 : TI := ⟨.func #[2, 2] #[2] false, 1, 8, [.v .nilFunc]⟩
def ti54 : TI := ⟨.func #[2] #[4] false, 1, 8, [.v .nilFunc]⟩
def ti55 : TI := ⟨.func #[3] #[4] false, 1, 8, [.v .nilFunc]⟩
def ti56 : TI := ⟨.func #[59] #[3] true, 1, 8, [.v .nilFunc]⟩
def ti57 : TI := ⟨.func #[2, 2] #[3] false, 1, 8, [.v .nilFunc]⟩
def ti58 : TI := ⟨.func #[3, 3] #[3] false, 1, 8, [.v .nilFunc]⟩
def ti59 : TI := ⟨.slice 3, 1, 24, [.v (.slice none 0 0)]⟩
def ti60 : TI := ⟨.func #[9, 9] #[4] false, 1, 8, [.v .nilFunc]⟩
def ti61 : TI := ⟨.func #[9] #[49] false, 1, 8, [.v .nilFunc]⟩
def ti62 : TI := ⟨.func #[9, 9] #[3] false, 1, 8, [.v .nilFunc]⟩
def ti63 : TI := ⟨.func #[9, 5] #[3] false, 1, 8, [.v .nilFunc]⟩
def ti64 : TI := ⟨.func #[3] #[3] false, 1, 8, [.v .nilFunc]⟩
def ti65 : TI := ⟨.int .u64, 1, 8, [.v (.int .u64 0)]⟩
def ti66 : TI := ⟨.int .u32, 1, 4, [.v (.int .u32 0)]⟩
def ti68 : TI := ⟨.func #[9] #[66, 66] false, 1, 8, [.v .nilFunc]⟩
def ti69 : TI := ⟨.func #[] #[9] false, 1, 8, [.v .nilFunc]⟩
def ti72 : TI := ⟨.array 0 16, 0, 0, []⟩
def ti75 : TI := ⟨.func #[] #[3] false, 1, 8, [.v .nilFunc]⟩
def ti78 : TI := ⟨.func #[84, 84] #[4] false, 1, 8, [.v .nilFunc]⟩
def ti79 : TI := ⟨.pointer 5, 1, 8, [.v (.pointer none)]⟩
def ti82 : TI := ⟨.struct #[⟨"Size_", 12, 0, false, "", "", 0⟩, ⟨"PtrBytes", 12, 1, false, "", "", 8⟩, ⟨"Hash", 66, 2, false, "", "", 16⟩, ⟨"TFlag", 76, 3, false, "", "", 20⟩, ⟨"Align_", 5, 4, false, "", "", 21⟩, ⟨"FieldAlign_", 5, 5, false, "", "", 22⟩, ⟨"Kind_", 77, 6, false, "", "", 23⟩, ⟨"Equal", 78, 7, false, "", "", 24⟩, ⟨"GCData", 79, 8, false, "", "", 32⟩, ⟨"Str", 80, 9, false, "", "", 40⟩, ⟨"PtrToThis", 81, 10, false, "", "", 44⟩], 11, 48, [.v (.int .u64 0), .v (.int .u64 0), .v (.int .u32 0), .v (.int .u8 0), .v (.int .u8 0), .v (.int .u8 0), .v (.int .u8 0), .v .nilFunc, .v (.pointer none), .v (.int .i32 0), .v (.int .i32 0)]⟩

def tyT : TypeId → Option TI
  | 1 => some ti1
  | 2 => some ti2
  | 3 => some ti3
  | 4 => some ti4
  | 5 => some ti5
  | 9 => some ti9
  | 12 => some ti12
  | 15 => some ti15
  | 16 => some ti16
  | 17 => some ti17
  | 21 => some ti21
  | 22 => some ti22
  | 23 => some ti23
  | 25 => some ti25
  | 26 => some ti26
  | 27 => some ti27
  | 28 => some ti28
  | 29 => some ti29
  | 30 => some ti30
  | 31 => some ti31
  | 32 => some ti32
  | 33 => some ti33
  | 34 => some ti34
  | 35 => some ti35
  | 36 => some ti36
  | 37 => some ti37
  | 38 => some ti38
  | 39 => some ti39
  | 40 => some ti40
  | 41 => some ti41
  | 42 => some ti42
  | 43 => some ti43
  | 44 => some ti44
  | 45 => some ti45
  | 46 => some ti46
  | 47 => some ti47
  | 48 => some ti48
  | 49 => some ti49
  | 50 => some ti50
  | 51 => some ti51
  | 52 => some ti52
  | 53 => some ti53
  | 54 => some ti54
  | 55 => some ti55
  | 56 => some ti56
  | 57 => some ti57
  | 58 => some ti58
  | 59 => some ti59
  | 60 => some ti60
  | 61 => some ti61
  | 62 => some ti62
  | 63 => some ti63
  | 64 => some ti64
  | 65 => some ti65
  | 66 => some ti66
  | 68 => some ti68
  | 69 => some ti69
  | 72 => some ti72
  | 75 => some ti75
  | 78 => some ti78
  | 79 => some ti79
  | 82 => some ti82
  | _ => none
def eqT : TypeId → Option (List Kd)
  | 22 => some [.i, .i]
  | 23 => some [.i, .i]
  | 30 => some [.i, .i, .i, .i, .i, .i, .i, .i]
  | 31 => some [.i, .i, .i, .i, .i, .i, .i, .i]
  | 47 => some [.i, .i, .i, .i, .i, .s, .s, .s]
  | 48 => some [.i, .i, .i, .i, .i, .s, .s, .s]
  | _ => none
noncomputable def E : Env := ⟨Try.prog, tyT, eqT⟩
theorem ety1 : E.ty 1 = some ti1 := rfl
theorem ety2 : E.ty 2 = some ti2 := rfl
theorem ety3 : E.ty 3 = some ti3 := rfl
theorem ety4 : E.ty 4 = some ti4 := rfl
theorem ety5 : E.ty 5 = some ti5 := rfl
theorem ety9 : E.ty 9 = some ti9 := rfl
theorem ety12 : E.ty 12 = some ti12 := rfl
theorem ety15 : E.ty 15 = some ti15 := rfl
theorem ety16 : E.ty 16 = some ti16 := rfl
theorem ety17 : E.ty 17 = some ti17 := rfl
theorem ety21 : E.ty 21 = some ti21 := rfl
theorem ety22 : E.ty 22 = some ti22 := rfl
theorem ety23 : E.ty 23 = some ti23 := rfl
theorem ety25 : E.ty 25 = some ti25 := rfl
theorem ety26 : E.ty 26 = some ti26 := rfl
theorem ety27 : E.ty 27 = some ti27 := rfl
theorem ety28 : E.ty 28 = some ti28 := rfl
theorem ety29 : E.ty 29 = some ti29 := rfl
theorem ety30 : E.ty 30 = some ti30 := rfl
theorem ety31 : E.ty 31 = some ti31 := rfl
theorem ety32 : E.ty 32 = some ti32 := rfl
theorem ety33 : E.ty 33 = some ti33 := rfl
theorem ety34 : E.ty 34 = some ti34 := rfl
theorem ety35 : E.ty 35 = some ti35 := rfl
theorem ety36 : E.ty 36 = some ti36 := rfl
theorem ety37 : E.ty 37 = some ti37 := rfl
theorem ety38 : E.ty 38 = some ti38 := rfl
theorem ety39 : E.ty 39 = some ti39 := rfl
theorem ety40 : E.ty 40 = some ti40 := rfl
theorem ety41 : E.ty 41 = some ti41 := rfl
theorem ety42 : E.ty 42 = some ti42 := rfl
theorem ety43 : E.ty 43 = some ti43 := rfl
theorem ety44 : E.ty 44 = some ti44 := rfl
theorem ety45 : E.ty 45 = some ti45 := rfl
theorem ety46 : E.ty 46 = some ti46 := rfl
theorem ety47 : E.ty 47 = some ti47 := rfl
theorem ety48 : E.ty 48 = some ti48 := rfl
theorem ety49 : E.ty 49 = some ti49 := rfl
theorem ety50 : E.ty 50 = some ti50 := rfl
theorem ety51 : E.ty 51 = some ti51 := rfl
theorem ety52 : E.ty 52 = some ti52 := rfl
theorem ety53 : E.ty 53 = some ti53 := rfl
theorem ety54 : E.ty 54 = some ti54 := rfl
theorem ety55 : E.ty 55 = some ti55 := rfl
theorem ety56 : E.ty 56 = some ti56 := rfl
theorem ety57 : E.ty 57 = some ti57 := rfl
theorem ety58 : E.ty 58 = some ti58 := rfl
theorem ety59 : E.ty 59 = some ti59 := rfl
theorem ety60 : E.ty 60 = some ti60 := rfl
theorem ety61 : E.ty 61 = some ti61 := rfl
theorem ety62 : E.ty 62 = some ti62 := rfl
theorem ety63 : E.ty 63 = some ti63 := rfl
theorem ety64 : E.ty 64 = some ti64 := rfl
theorem ety65 : E.ty 65 = some ti65 := rfl
theorem ety66 : E.ty 66 = some ti66 := rfl
theorem ety68 : E.ty 68 = some ti68 := rfl
theorem ety69 : E.ty 69 = some ti69 := rfl
theorem ety72 : E.ty 72 = some ti72 := rfl
theorem ety75 : E.ty 75 = some ti75 := rfl
theorem ety78 : E.ty 78 = some ti78 := rfl
theorem ety79 : E.ty 79 = some ti79 := rfl
theorem ety82 : E.ty 82 = some ti82 := rfl
theorem eeq22 : E.eqk 22 = some [.i, .i] := rfl
theorem eeq23 : E.eqk 23 = some [.i, .i] := rfl
theorem eeq30 : E.eqk 30 = some [.i, .i, .i, .i, .i, .i, .i, .i] := rfl
theorem eeq31 : E.eqk 31 = some [.i, .i, .i, .i, .i, .i, .i, .i] := rfl
theorem eeq47 : E.eqk 47 = some [.i, .i, .i, .i, .i, .s, .s, .s] := rfl
theorem eeq48 : E.eqk 48 = some [.i, .i, .i, .i, .i, .s, .s, .s] := rfl
theorem evqf1 {f : FuncId} {l : List AV} : evEq E 1 (.fn f l) (.v .nilFunc) = some false := rfl
theorem evqz1  : evEq E 1 (.v .nilFunc) (.v .nilFunc) = some true := rfl
theorem evqb4 {a b : Bool} : evEq E 4 (.v (.bool a)) (.v (.bool b)) = some (a == b) := rfl
theorem evqp15 {i o : Nat} : evEq E 15 (.ptr i o) (.v (.pointer none)) = some false := rfl
theorem evqi15 {l : List AV} {o : Nat} : evEq E 15 (.iptr l o) (.v (.pointer none)) = some false := rfl
theorem evqz15  : evEq E 15 (.v (.pointer none)) (.v (.pointer none)) = some true := rfl
theorem evqq15 {i o : Nat} : evEq E 15 (.v (.pointer none)) (.ptr i o) = some false := rfl
theorem evqj15 {l : List AV} {o : Nat} : evEq E 15 (.v (.pointer none)) (.iptr l o) = some false := rfl
theorem evqp16 {i o : Nat} : evEq E 16 (.ptr i o) (.v (.pointer none)) = some false := rfl
theorem evqi16 {l : List AV} {o : Nat} : evEq E 16 (.iptr l o) (.v (.pointer none)) = some false := rfl
theorem evqz16  : evEq E 16 (.v (.pointer none)) (.v (.pointer none)) = some true := rfl
theorem evqq16 {i o : Nat} : evEq E 16 (.v (.pointer none)) (.ptr i o) = some false := rfl
theorem evqj16 {l : List AV} {o : Nat} : evEq E 16 (.v (.pointer none)) (.iptr l o) = some false := rfl
theorem evqp17 {i o : Nat} : evEq E 17 (.ptr i o) (.v (.pointer none)) = some false := rfl
theorem evqi17 {l : List AV} {o : Nat} : evEq E 17 (.iptr l o) (.v (.pointer none)) = some false := rfl
theorem evqz17  : evEq E 17 (.v (.pointer none)) (.v (.pointer none)) = some true := rfl
theorem evqq17 {i o : Nat} : evEq E 17 (.v (.pointer none)) (.ptr i o) = some false := rfl
theorem evqj17 {l : List AV} {o : Nat} : evEq E 17 (.v (.pointer none)) (.iptr l o) = some false := rfl
theorem evqf25 {f : FuncId} {l : List AV} : evEq E 25 (.fn f l) (.v .nilFunc) = some false := rfl
theorem evqz25  : evEq E 25 (.v .nilFunc) (.v .nilFunc) = some true := rfl
theorem evqf26 {f : FuncId} {l : List AV} : evEq E 26 (.fn f l) (.v .nilFunc) = some false := rfl
theorem evqz26  : evEq E 26 (.v .nilFunc) (.v .nilFunc) = some true := rfl
theorem evqf27 {f : FuncId} {l : List AV} : evEq E 27 (.fn f l) (.v .nilFunc) = some false := rfl
theorem evqz27  : evEq E 27 (.v .nilFunc) (.v .nilFunc) = some true := rfl
theorem evqf28 {f : FuncId} {l : List AV} : evEq E 28 (.fn f l) (.v .nilFunc) = some false := rfl
theorem evqz28  : evEq E 28 (.v .nilFunc) (.v .nilFunc) = some true := rfl
theorem evqs29 {i : Nat} {l : List (List AV)} {t : Tok} : evEq E 29 (.sl i l t) (.v (.slice none 0 0)) = some false := rfl
theorem evqz29  : evEq E 29 (.v (.slice none 0 0)) (.v (.slice none 0 0)) = some true := rfl
theorem evqu29 {i o n s : Nat} : evEq E 29 (.bsl i o n s) (.v (.slice none 0 0)) = some false := rfl
theorem evqf32 {f : FuncId} {l : List AV} : evEq E 32 (.fn f l) (.v .nilFunc) = some false := rfl
theorem evqz32  : evEq E 32 (.v .nilFunc) (.v .nilFunc) = some true := rfl
theorem evqf33 {f : FuncId} {l : List AV} : evEq E 33 (.fn f l) (.v .nilFunc) = some false := rfl
theorem evqz33  : evEq E 33 (.v .nilFunc) (.v .nilFunc) = some true := rfl
theorem evqf34 {f : FuncId} {l : List AV} : evEq E 34 (.fn f l) (.v .nilFunc) = some false := rfl
theorem evqz34  : evEq E 34 (.v .nilFunc) (.v .nilFunc) = some true := rfl
theorem evqf35 {f : FuncId} {l : List AV} : evEq E 35 (.fn f l) (.v .nilFunc) = some false := rfl
theorem evqz35  : evEq E 35 (.v .nilFunc) (.v .nilFunc) = some true := rfl
theorem evqf36 {f : FuncId} {l : List AV} : evEq E 36 (.fn f l) (.v .nilFunc) = some false := rfl
theorem evqz36  : evEq E 36 (.v .nilFunc) (.v .nilFunc) = some true := rfl
theorem evqf37 {f : FuncId} {l : List AV} : evEq E 37 (.fn f l) (.v .nilFunc) = some false := rfl
theorem evqz37  : evEq E 37 (.v .nilFunc) (.v .nilFunc) = some true := rfl
theorem evqf38 {f : FuncId} {l : List AV} : evEq E 38 (.fn f l) (.v .nilFunc) = some false := rfl
theorem evqz38  : evEq E 38 (.v .nilFunc) (.v .nilFunc) = some true := rfl
theorem evqf39 {f : FuncId} {l : List AV} : evEq E 39 (.fn f l) (.v .nilFunc) = some false := rfl
theorem evqz39  : evEq E 39 (.v .nilFunc) (.v .nilFunc) = some true := rfl
theorem evqf40 {f : FuncId} {l : List AV} : evEq E 40 (.fn f l) (.v .nilFunc) = some false := rfl
theorem evqz40  : evEq E 40 (.v .nilFunc) (.v .nilFunc) = some true := rfl
theorem evqf41 {f : FuncId} {l : List AV} : evEq E 41 (.fn f l) (.v .nilFunc) = some false := rfl
theorem evqz41  : evEq E 41 (.v .nilFunc) (.v .nilFunc) = some true := rfl
theorem evqf42 {f : FuncId} {l : List AV} : evEq E 42 (.fn f l) (.v .nilFunc) = some false := rfl
theorem evqz42  : evEq E 42 (.v .nilFunc) (.v .nilFunc) = some true := rfl
theorem evqs43 {i : Nat} {l : List (List AV)} {t : Tok} : evEq E 43 (.sl i l t) (.v (.slice none 0 0)) = some false := rfl
theorem evqz43  : evEq E 43 (.v (.slice none 0 0)) (.v (.slice none 0 0)) = some true := rfl
theorem evqu43 {i o n s : Nat} : evEq E 43 (.bsl i o n s) (.v (.slice none 0 0)) = some false := rfl
theorem evqf44 {f : FuncId} {l : List AV} : evEq E 44 (.fn f l) (.v .nilFunc) = some false := rfl
theorem evqz44  : evEq E 44 (.v .nilFunc) (.v .nilFunc) = some true := rfl
theorem evqf45 {f : FuncId} {l : List AV} : evEq E 45 (.fn f l) (.v .nilFunc) = some false := rfl
theorem evqz45  : evEq E 45 (.v .nilFunc) (.v .nilFunc) = some true := rfl
theorem evqf46 {f : FuncId} {l : List AV} : evEq E 46 (.fn f l) (.v .nilFunc) = some false := rfl
theorem evqz46  : evEq E 46 (.v .nilFunc) (.v .nilFunc) = some true := rfl
theorem evqf50 {f : FuncId} {l : List AV} : evEq E 50 (.fn f l) (.v .nilFunc) = some false := rfl
theorem evqz50  : evEq E 50 (.v .nilFunc) (.v .nilFunc) = some true := rfl
theorem evqf51 {f : FuncId} {l : List AV} : evEq E 51 (.fn f l) (.v .nilFunc) = some false := rfl
theorem evqz51  : evEq E 51 (.v .nilFunc) (.v .nilFunc) = some true := rfl
theorem evqf52 {f : FuncId} {l : List AV} : evEq E 52 (.fn f l) (.v .nilFunc) = some false := rfl
theorem evqz52  : evEq E 52 (.v .nilFunc) (.v .nilFunc) = some true := rfl
theorem evqf53 {f : FuncId} {l : List AV} : evEq E 53 (.fn f l) (.v .nilFunc) = some false := rfl
theorem evqz53  : evEq E 53 (.v .nilFunc) (.v .nilFunc) = some true := rfl
theorem evqf54 {f : FuncId} {l : List AV} : evEq E 54 (.fn f l) (.v .nilFunc) = some false := rfl
theorem evqz54  : evEq E 54 (.v .nilFunc) (.v .nilFunc) = some true := rfl
theorem evqf55 {f : FuncId} {l : List AV} : evEq E 55 (.fn f l) (.v .nilFunc) = some false := rfl
theorem evqz55  : evEq E 55 (.v .nilFunc) (.v .nilFunc) = some true := rfl
theorem evqf56 {f : FuncId} {l : List AV} : evEq E 56 (.fn f l) (.v .nilFunc) = some false := rfl
theorem evqz56  : evEq E 56 (.v .nilFunc) (.v .nilFunc) = some true := rfl
theorem evqf57 {f : FuncId} {l : List AV} : evEq E 57 (.fn f l) (.v .nilFunc) = some false := rfl
theorem evqz57  : evEq E 57 (.v .nilFunc) (.v .nilFunc) = some true := rfl
theorem evqf58 {f : FuncId} {l : List AV} : evEq E 58 (.fn f l) (.v .nilFunc) = some false := rfl
theorem evqz58  : evEq E 58 (.v .nilFunc) (.v .nilFunc) = some true := rfl
theorem evqs59 {i : Nat} {l : List (List AV)} {t : Tok} : evEq E 59 (.sl i l t) (.v (.slice none 0 0)) = some false := rfl
theorem evqz59  : evEq E 59 (.v (.slice none 0 0)) (.v (.slice none 0 0)) = some true := rfl
theorem evqu59 {i o n s : Nat} : evEq E 59 (.bsl i o n s) (.v (.slice none 0 0)) = some false := rfl
theorem evqf60 {f : FuncId} {l : List AV} : evEq E 60 (.fn f l) (.v .nilFunc) = some false := rfl
theorem evqz60  : evEq E 60 (.v .nilFunc) (.v .nilFunc) = some true := rfl
theorem evqf61 {f : FuncId} {l : List AV} : evEq E 61 (.fn f l) (.v .nilFunc) = some false := rfl
theorem evqz61  : evEq E 61 (.v .nilFunc) (.v .nilFunc) = some true := rfl
theorem evqf62 {f : FuncId} {l : List AV} : evEq E 62 (.fn f l) (.v .nilFunc) = some false := rfl
theorem evqz62  : evEq E 62 (.v .nilFunc) (.v .nilFunc) = some true := rfl
theorem evqf63 {f : FuncId} {l : List AV} : evEq E 63 (.fn f l) (.v .nilFunc) = some false := rfl
theorem evqz63  : evEq E 63 (.v .nilFunc) (.v .nilFunc) = some true := rfl
theorem evqf64 {f : FuncId} {l : List AV} : evEq E 64 (.fn f l) (.v .nilFunc) = some false := rfl
theorem evqz64  : evEq E 64 (.v .nilFunc) (.v .nilFunc) = some true := rfl
theorem evqf68 {f : FuncId} {l : List AV} : evEq E 68 (.fn f l) (.v .nilFunc) = some false := rfl
theorem evqz68  : evEq E 68 (.v .nilFunc) (.v .nilFunc) = some true := rfl
theorem evqf69 {f : FuncId} {l : List AV} : evEq E 69 (.fn f l) (.v .nilFunc) = some false := rfl
theorem evqz69  : evEq E 69 (.v .nilFunc) (.v .nilFunc) = some true := rfl
theorem evqf75 {f : FuncId} {l : List AV} : evEq E 75 (.fn f l) (.v .nilFunc) = some false := rfl
theorem evqz75  : evEq E 75 (.v .nilFunc) (.v .nilFunc) = some true := rfl
theorem evqf78 {f : FuncId} {l : List AV} : evEq E 78 (.fn f l) (.v .nilFunc) = some false := rfl
theorem evqz78  : evEq E 78 (.v .nilFunc) (.v .nilFunc) = some true := rfl
theorem evqp79 {i o : Nat} : evEq E 79 (.ptr i o) (.v (.pointer none)) = some false := rfl
theorem evqi79 {l : List AV} {o : Nat} : evEq E 79 (.iptr l o) (.v (.pointer none)) = some false := rfl
theorem evqz79  : evEq E 79 (.v (.pointer none)) (.v (.pointer none)) = some true := rfl
theorem evqq79 {i o : Nat} : evEq E 79 (.v (.pointer none)) (.ptr i o) = some false := rfl
theorem evqj79 {l : List AV} {o : Nat} : evEq E 79 (.v (.pointer none)) (.iptr l o) = some false := rfl
theorem tok1 : TyOk E.P 1 ti1 := TyOk.mk' (z := .nilFunc) (by kernel_rfl) rfl (by kernel_rfl) (by simp [ti1, zrel, Value.cells])
theorem tok2 : TyOk E.P 2 ti2 := TyOk.mk' (z := (.int .i64 0)) (by kernel_rfl) rfl (by kernel_rfl) (by simp [ti2, zrel, Value.cells])
theorem tok3 : TyOk E.P 3 ti3 := TyOk.mk' (z := (.int .i64 0)) (by kernel_rfl) rfl (by kernel_rfl) (by simp [ti3, zrel, Value.cells])
theorem tok4 : TyOk E.P 4 ti4 := TyOk.mk' (z := (.bool false)) (by kernel_rfl) rfl (by kernel_rfl) (by simp [ti4, zrel, Value.cells])
theorem tok5 : TyOk E.P 5 ti5 := TyOk.mk' (z := (.int .u8 0)) (by kernel_rfl) rfl (by kernel_rfl) (by simp [ti5, zrel, Value.cells])
theorem tok9 : TyOk E.P 9 ti9 := TyOk.mk' (z := (.string ⟨#[]⟩)) (by kernel_rfl) rfl (by kernel_rfl) (by simp [ti9, zrel, Value.cells])
theorem tok12 : TyOk E.P 12 ti12 := TyOk.mk' (z := (.int .u64 0)) (by kernel_rfl) rfl (by kernel_rfl) (by simp [ti12, zrel, Value.cells])
theorem tok15 : TyOk E.P 15 ti15 := TyOk.mk' (z := (.pointer none)) (by kernel_rfl) rfl (by kernel_rfl) (by simp [ti15, zrel, Value.cells])
theorem tok16 : TyOk E.P 16 ti16 := TyOk.mk' (z := (.pointer none)) (by kernel_rfl) rfl (by kernel_rfl) (by simp [ti16, zrel, Value.cells])
theorem tok17 : TyOk E.P 17 ti17 := TyOk.mk' (z := (.pointer none)) (by kernel_rfl) rfl (by kernel_rfl) (by simp [ti17, zrel, Value.cells])
theorem tok21 : TyOk E.P 21 ti21 := TyOk.mk' (z := (.int .i32 0)) (by kernel_rfl) rfl (by kernel_rfl) (by simp [ti21, zrel, Value.cells])
theorem tok22 : TyOk E.P 22 ti22 := TyOk.mk' (z := (.agg #[(.int .i64 0), (.int .i64 0)])) (by kernel_rfl) rfl (by kernel_rfl) (by simp [ti22, zrel, Value.cells])
theorem tok23 : TyOk E.P 23 ti23 := TyOk.mk' (z := (.agg #[(.int .i64 0), (.int .i64 0)])) (by kernel_rfl) rfl (by kernel_rfl) (by simp [ti23, zrel, Value.cells])
theorem tok25 : TyOk E.P 25 ti25 := TyOk.mk' (z := .nilFunc) (by kernel_rfl) rfl (by kernel_rfl) (by simp [ti25, zrel, Value.cells])
theorem tok26 : TyOk E.P 26 ti26 := TyOk.mk' (z := .nilFunc) (by kernel_rfl) rfl (by kernel_rfl) (by simp [ti26, zrel, Value.cells])
theorem tok27 : TyOk E.P 27 ti27 := TyOk.mk' (z := .nilFunc) (by kernel_rfl) rfl (by kernel_rfl) (by simp [ti27, zrel, Value.cells])
theorem tok28 : TyOk E.P 28 ti28 := TyOk.mk' (z := .nilFunc) (by kernel_rfl) rfl (by kernel_rfl) (by simp [ti28, zrel, Value.cells])
theorem tok29 : TyOk E.P 29 ti29 := TyOk.mk' (z := (.slice none 0 0)) (by kernel_rfl) rfl (by kernel_rfl) (by simp [ti29, zrel, Value.cells])
theorem tok30 : TyOk E.P 30 ti30 := TyOk.mk' (z := (.agg #[(.int .i64 0), (.int .i64 0), (.int .i64 0), (.int .i64 0), (.int .i64 0), (.int .i64 0), (.int .i64 0), (.int .i64 0)])) (by kernel_rfl) rfl (by kernel_rfl) (by simp [ti30, zrel, Value.cells])
theorem tok31 : TyOk E.P 31 ti31 := TyOk.mk' (z := (.agg #[(.int .i64 0), (.int .i64 0), (.int .i64 0), (.int .i64 0), (.int .i64 0), (.int .i64 0), (.int .i64 0), (.int .i64 0)])) (by kernel_rfl) rfl (by kernel_rfl) (by simp [ti31, zrel, Value.cells])
theorem tok32 : TyOk E.P 32 ti32 := TyOk.mk' (z := .nilFunc) (by kernel_rfl) rfl (by kernel_rfl) (by simp [ti32, zrel, Value.cells])
theorem tok33 : TyOk E.P 33 ti33 := TyOk.mk' (z := .nilFunc) (by kernel_rfl) rfl (by kernel_rfl) (by simp [ti33, zrel, Value.cells])
theorem tok34 : TyOk E.P 34 ti34 := TyOk.mk' (z := .nilFunc) (by kernel_rfl) rfl (by kernel_rfl) (by simp [ti34, zrel, Value.cells])
theorem tok35 : TyOk E.P 35 ti35 := TyOk.mk' (z := .nilFunc) (by kernel_rfl) rfl (by kernel_rfl) (by simp [ti35, zrel, Value.cells])
theorem tok36 : TyOk E.P 36 ti36 := TyOk.mk' (z := .nilFunc) (by kernel_rfl) rfl (by kernel_rfl) (by simp [ti36, zrel, Value.cells])
theorem tok37 : TyOk E.P 37 ti37 := TyOk.mk' (z := .nilFunc) (by kernel_rfl) rfl (by kernel_rfl) (by simp [ti37, zrel, Value.cells])
theorem tok38 : TyOk E.P 38 ti38 := TyOk.mk' (z := .nilFunc) (by kernel_rfl) rfl (by kernel_rfl) (by simp [ti38, zrel, Value.cells])
theorem tok39 : TyOk E.P 39 ti39 := TyOk.mk' (z := .nilFunc) (by kernel_rfl) rfl (by kernel_rfl) (by simp [ti39, zrel, Value.cells])
theorem tok40 : TyOk E.P 40 ti40 := TyOk.mk' (z := .nilFunc) (by kernel_rfl) rfl (by kernel_rfl) (by simp [ti40, zrel, Value.cells])
theorem tok41 : TyOk E.P 41 ti41 := TyOk.mk' (z := .nilFunc) (by kernel_rfl) rfl (by kernel_rfl) (by simp [ti41, zrel, Value.cells])
theorem tok42 : TyOk E.P 42 ti42 := TyOk.mk' (z := .nilFunc) (by kernel_rfl) rfl (by kernel_rfl) (by simp [ti42, zrel, Value.cells])
theorem tok43 : TyOk E.P 43 ti43 := TyOk.mk' (z := (.slice none 0 0)) (by kernel_rfl) rfl (by kernel_rfl) (by simp [ti43, zrel, Value.cells])
theorem tok44 : TyOk E.P 44 ti44 := TyOk.mk' (z := .nilFunc) (by kernel_rfl) rfl (by kernel_rfl) (by simp [ti44, zrel, Value.cells])
theorem tok45 : TyOk E.P 45 ti45 := TyOk.mk' (z := .nilFunc) (by kernel_rfl) rfl (by kernel_rfl) (by simp [ti45, zrel, Value.cells])
theorem tok46 : TyOk E.P 46 ti46 := TyOk.mk' (z := .nilFunc) (by kernel_rfl) rfl (by kernel_rfl) (by simp [ti46, zrel, Value.cells])
theorem tok47 : TyOk E.P 47 ti47 := TyOk.mk' (z := (.agg #[(.int .i64 0), (.int .i64 0), (.int .i64 0), (.int .i64 0), (.int .i64 0), (.string ⟨#[]⟩), (.string ⟨#[]⟩), (.string ⟨#[]⟩)])) (by kernel_rfl) rfl (by kernel_rfl) (by simp [ti47, zrel, Value.cells])
theorem tok48 : TyOk E.P 48 ti48 := TyOk.mk' (z := (.agg #[(.int .i64 0), (.int .i64 0), (.int .i64 0), (.int .i64 0), (.int .i64 0), (.string ⟨#[]⟩), (.string ⟨#[]⟩), (.string ⟨#[]⟩)])) (by kernel_rfl) rfl (by kernel_rfl) (by simp [ti48, zrel, Value.cells])
theorem tok49 : TyOk E.P 49 ti49 := TyOk.mk' (z := (.int .i64 0)) (by kernel_rfl) rfl (by kernel_rfl) (by simp [ti49, zrel, Value.cells])
theorem tok50 : TyOk E.P 50 ti50 := TyOk.mk' (z := .nilFunc) (by kernel_rfl) rfl (by kernel_rfl) (by simp [ti50, zrel, Value.cells])
theorem tok51 : TyOk E.P 51 ti51 := TyOk.mk' (z := .nilFunc) (by kernel_rfl) rfl (by kernel_rfl) (by simp [ti51, zrel, Value.cells])
theorem tok52 : TyOk E.P 52 ti52 := TyOk.mk' (z := .nilFunc) (by kernel_rfl) rfl (by kernel_rfl) (by simp [ti52, zrel, Value.cells])
theorem tok53 : TyOk E.P 53 ti53 := TyOk.mk' (z := .nilFunc) (by kernel_rfl) rfl (by kernel_rfl) (by simp [ti53, zrel, Value.cells])
theorem tok54 : TyOk E.P 54 ti54 := TyOk.mk' (z := .nilFunc) (by kernel_rfl) rfl (by kernel_rfl) (by simp [ti54, zrel, Value.cells])
theorem tok55 : TyOk E.P 55 ti55 := TyOk.mk' (z := .nilFunc) (by kernel_rfl) rfl (by kernel_rfl) (by simp [ti55, zrel, Value.cells])
theorem tok56 : TyOk E.P 56 ti56 := TyOk.mk' (z := .nilFunc) (by kernel_rfl) rfl (by kernel_rfl) (by simp [ti56, zrel, Value.cells])
theorem tok57 : TyOk E.P 57 ti57 := TyOk.mk' (z := .nilFunc) (by kernel_rfl) rfl (by kernel_rfl) (by simp [ti57, zrel, Value.cells])
theorem tok58 : TyOk E.P 58 ti58 := TyOk.mk' (z := .nilFunc) (by kernel_rfl) rfl (by kernel_rfl) (by simp [ti58, zrel, Value.cells])
theorem tok59 : TyOk E.P 59 ti59 := TyOk.mk' (z := (.slice none 0 0)) (by kernel_rfl) rfl (by kernel_rfl) (by simp [ti59, zrel, Value.cells])
theorem tok60 : TyOk E.P 60 ti60 := TyOk.mk' (z := .nilFunc) (by kernel_rfl) rfl (by kernel_rfl) (by simp [ti60, zrel, Value.cells])
theorem tok61 : TyOk E.P 61 ti61 := TyOk.mk' (z := .nilFunc) (by kernel_rfl) rfl (by kernel_rfl) (by simp [ti61, zrel, Value.cells])
theorem tok62 : TyOk E.P 62 ti62 := TyOk.mk' (z := .nilFunc) (by kernel_rfl) rfl (by kernel_rfl) (by simp [ti62, zrel, Value.cells])
theorem tok63 : TyOk E.P 63 ti63 := TyOk.mk' (z := .nilFunc) (by kernel_rfl) rfl (by kernel_rfl) (by simp [ti63, zrel, Value.cells])
theorem tok64 : TyOk E.P 64 ti64 := TyOk.mk' (z := .nilFunc) (by kernel_rfl) rfl (by kernel_rfl) (by simp [ti64, zrel, Value.cells])
theorem tok65 : TyOk E.P 65 ti65 := TyOk.mk' (z := (.int .u64 0)) (by kernel_rfl) rfl (by kernel_rfl) (by simp [ti65, zrel, Value.cells])
theorem tok66 : TyOk E.P 66 ti66 := TyOk.mk' (z := (.int .u32 0)) (by kernel_rfl) rfl (by kernel_rfl) (by simp [ti66, zrel, Value.cells])
theorem tok68 : TyOk E.P 68 ti68 := TyOk.mk' (z := .nilFunc) (by kernel_rfl) rfl (by kernel_rfl) (by simp [ti68, zrel, Value.cells])
theorem tok69 : TyOk E.P 69 ti69 := TyOk.mk' (z := .nilFunc) (by kernel_rfl) rfl (by kernel_rfl) (by simp [ti69, zrel, Value.cells])
theorem tok72 : TyOk E.P 72 ti72 := TyOk.mk' (z := (.agg #[])) (by kernel_rfl) rfl (by kernel_rfl) (by simp [ti72, zrel, Value.cells])
theorem tok75 : TyOk E.P 75 ti75 := TyOk.mk' (z := .nilFunc) (by kernel_rfl) rfl (by kernel_rfl) (by simp [ti75, zrel, Value.cells])
theorem tok78 : TyOk E.P 78 ti78 := TyOk.mk' (z := .nilFunc) (by kernel_rfl) rfl (by kernel_rfl) (by simp [ti78, zrel, Value.cells])
theorem tok79 : TyOk E.P 79 ti79 := TyOk.mk' (z := (.pointer none)) (by kernel_rfl) rfl (by kernel_rfl) (by simp [ti79, zrel, Value.cells])
theorem tok82 : TyOk E.P 82 ti82 := TyOk.mk' (z := (.agg #[(.int .u64 0), (.int .u64 0), (.int .u32 0), (.int .u8 0), (.int .u8 0), (.int .u8 0), (.int .u8 0), .nilFunc, (.pointer none), (.int .i32 0), (.int .i32 0)])) (by kernel_rfl) rfl (by kernel_rfl) (by simp [ti82, zrel, Value.cells])
theorem eOk : E.Ok := by
  intro t i h
  have h' : tyT t = some i := h
  unfold tyT at h'
  split at h' <;> first
    | (cases h'; first | exact tok1 | exact tok2 | exact tok3 | exact tok4 | exact tok5 | exact tok9 | exact tok12 | exact tok15 | exact tok16 | exact tok17 | exact tok21 | exact tok22 | exact tok23 | exact tok25 | exact tok26 | exact tok27 | exact tok28 | exact tok29 | exact tok30 | exact tok31 | exact tok32 | exact tok33 | exact tok34 | exact tok35 | exact tok36 | exact tok37 | exact tok38 | exact tok39 | exact tok40 | exact tok41 | exact tok42 | exact tok43 | exact tok44 | exact tok45 | exact tok46 | exact tok47 | exact tok48 | exact tok49 | exact tok50 | exact tok51 | exact tok52 | exact tok53 | exact tok54 | exact tok55 | exact tok56 | exact tok57 | exact tok58 | exact tok59 | exact tok60 | exact tok61 | exact tok62 | exact tok63 | exact tok64 | exact tok65 | exact tok66 | exact tok68 | exact tok69 | exact tok72 | exact tok75 | exact tok78 | exact tok79 | exact tok82)
    | cases h'
theorem eEq : E.EqOk := by
  intro t ks h
  have h' : eqT t = some ks := h
  unfold eqT at h'
  split at h' <;> first
    | (cases h'; exact ⟨by kernel_rfl, by kernel_rfl, by kernel_rfl⟩)
    | cases h'
theorem eGood : Good E := ⟨eOk, eEq, by kernel_rfl⟩

end Go.Proofs.Ytphjnagmlgmdfaa
