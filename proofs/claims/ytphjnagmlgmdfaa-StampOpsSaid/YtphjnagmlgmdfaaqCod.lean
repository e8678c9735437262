/-
The types of this seat's program, as the evaluator asks them, and how their data are told. Written by wip/tools/gen2.py.
-/
import Derived.Test.YtphjnagmlgmdfaaProg
import Derived.Test.YtphjnagmlgmdfaaqTvR
import Derived.KernelRfl
set_option linter.unusedVariables false
set_option linter.unusedSimpArgs false
set_option maxHeartbeats 8000000
set_option maxRecDepth 100000
namespace Go.Proofs.Ytphjnagmlgmdfaa
open Go Go.Ev
def ti1 : TI := ⟨.func #[] #[] false, 1, 8, [.v .nilFunc]⟩
def ti2 : TI := ⟨.int .i64, 1, 8, [.v (.int .i64 0)]⟩
def ti3 : TI := ⟨.int .i64, 1, 8, [.v (.int .i64 0)]⟩
def ti4 : TI := ⟨.bool, 1, 1, [.v (.bool false)]⟩
def ti5 : TI := ⟨.int .u8, 1, 1, [.v (.int .u8 0)]⟩
def ti9 : TI := ⟨.string, 1, 16, [.v (.string ⟨#[]⟩)]⟩
def ti12 : TI := ⟨.int .u64, 1, 8, [.v (.int .u64 0)]⟩
def ti17 : TI := ⟨.pointer 83, 1, 8, [.v (.pointer none)]⟩
def ti21 : TI := ⟨.int .i32, 1, 4, [.v (.int .i32 0)]⟩
def ti22 : TI := ⟨.struct #[⟨ "Time", 2, 0, false, "", "", 0⟩, ⟨ "Site", 3, 1, false, "", "", 8⟩], 2, 16, [.v (.int .i64 0), .v (.int .i64 0)]⟩
def ti23 : TI := ⟨.struct #[⟨ "Time", 2, 0, false, "", "", 0⟩, ⟨ "Site", 3, 1, false, "", "", 8⟩], 2, 16, [.v (.int .i64 0), .v (.int .i64 0)]⟩
def ti25 : TI := ⟨.func #[2] #[23, 4] false, 1, 8, [.v .nilFunc]⟩
def ti26 : TI := ⟨.func #[] #[4] false, 1, 8, [.v .nilFunc]⟩
def ti27 : TI := ⟨.func #[23] #[2] false, 1, 8, [.v .nilFunc]⟩
def ti28 : TI := ⟨.func #[23, 2] #[4] false, 1, 8, [.v .nilFunc]⟩
def ti29 : TI := ⟨.slice 31, 1, 24, [.v (.slice none 0 0)]⟩
def ti30 : TI := ⟨.array 8 2, 8, 64, [.v (.int .i64 0), .v (.int .i64 0), .v (.int .i64 0), .v (.int .i64 0), .v (.int .i64 0), .v (.int .i64 0), .v (.int .i64 0), .v (.int .i64 0)]⟩
def ti31 : TI := ⟨.array 8 2, 8, 64, [.v (.int .i64 0), .v (.int .i64 0), .v (.int .i64 0), .v (.int .i64 0), .v (.int .i64 0), .v (.int .i64 0), .v (.int .i64 0), .v (.int .i64 0)]⟩
def ti32 : TI := ⟨.func #[29] #[31] true, 1, 8, [.v .nilFunc]⟩
def ti33 : TI := ⟨.func #[31, 31] #[4] false, 1, 8, [.v .nilFunc]⟩
def ti34 : TI := ⟨.func #[29, 5] #[4] false, 1, 8, [.v .nilFunc]⟩
def ti35 : TI := ⟨.func #[31, 31, 31] #[4] false, 1, 8, [.v .nilFunc]⟩
def ti36 : TI := ⟨.func #[31] #[4] false, 1, 8, [.v .nilFunc]⟩
def ti37 : TI := ⟨.func #[29] #[31] false, 1, 8, [.v .nilFunc]⟩
def ti38 : TI := ⟨.func #[31] #[2] false, 1, 8, [.v .nilFunc]⟩
def ti39 : TI := ⟨.func #[29, 31, 31] #[4] false, 1, 8, [.v .nilFunc]⟩
def ti40 : TI := ⟨.func #[23] #[4] false, 1, 8, [.v .nilFunc]⟩
def ti41 : TI := ⟨.func #[23, 23] #[3] false, 1, 8, [.v .nilFunc]⟩
def ti42 : TI := ⟨.func #[23, 23] #[4] false, 1, 8, [.v .nilFunc]⟩
def ti43 : TI := ⟨.slice 23, 1, 24, [.v (.slice none 0 0)]⟩
def ti44 : TI := ⟨.func #[43] #[23] true, 1, 8, [.v .nilFunc]⟩
def ti45 : TI := ⟨.func #[43] #[23] false, 1, 8, [.v .nilFunc]⟩
def ti46 : TI := ⟨.func #[23, 23, 43] #[4] false, 1, 8, [.v .nilFunc]⟩
def ti47 : TI := ⟨.struct #[⟨ "Stamp", 23, 0, false, "", "", 0⟩, ⟨ "Kind", 3, 2, false, "", "", 16⟩, ⟨ "Node", 2, 3, false, "", "", 24⟩, ⟨ "Parent", 2, 4, false, "", "", 32⟩, ⟨ "Name", 9, 5, false, "", "", 40⟩, ⟨ "Key", 9, 6, false, "", "", 56⟩, ⟨ "Value", 9, 7, false, "", "", 72⟩], 8, 88, [.v (.int .i64 0), .v (.int .i64 0), .v (.int .i64 0), .v (.int .i64 0), .v (.int .i64 0), .v (.string ⟨#[]⟩), .v (.string ⟨#[]⟩), .v (.string ⟨#[]⟩)]⟩
def ti48 : TI := ⟨.struct #[⟨ "Stamp", 23, 0, false, "", "", 0⟩, ⟨ "Kind", 3, 2, false, "", "", 16⟩, ⟨ "Node", 2, 3, false, "", "", 24⟩, ⟨ "Parent", 2, 4, false, "", "", 32⟩, ⟨ "Name", 9, 5, false, "", "", 40⟩, ⟨ "Key", 9, 6, false, "", "", 56⟩, ⟨ "Value", 9, 7, false, "", "", 72⟩], 8, 88, [.v (.int .i64 0), .v (.int .i64 0), .v (.int .i64 0), .v (.int .i64 0), .v (.int .i64 0), .v (.string ⟨#[]⟩), .v (.string ⟨#[]⟩), .v (.string ⟨#[]⟩)]⟩
def ti49 : TI := ⟨.int .i64, 1, 8, [.v (.int .i64 0)]⟩
def ti50 : TI := ⟨.func #[48] #[49] false, 1, 8, [.v .nilFunc]⟩
def ti51 : TI := ⟨.func #[48] #[4] false, 1, 8, [.v .nilFunc]⟩
def ti52 : TI := ⟨.func #[53, 29] #[31] true, 1, 8, [.v .nilFunc]⟩
def ti53 : TI := ⟨.func #[2, 2] #[2] false, 1, 8, [.v .nilFunc]⟩
def ti54 : TI := ⟨.func #[2] #[4] false, 1, 8, [.v .nilFunc]⟩
def ti55 : TI := ⟨.func #[3] #[4] false, 1, 8, [.v .nilFunc]⟩
def ti56 : TI := ⟨.func #[59] #[3] true, 1, 8, [.v .nilFunc]⟩
def ti57 : TI := ⟨.func #[2, 2] #[3] false, 1, 8, [.v .nilFunc]⟩
def ti58 : TI := ⟨.func #[3, 3] #[3] false, 1, 8, [.v .nilFunc]⟩
def ti59 : TI := ⟨.slice 3, 1, 24, [.v (.slice none 0 0)]⟩
def ti60 : TI := ⟨.func #[9, 9] #[4] false, 1, 8, [.v .nilFunc]⟩
def ti61 : TI := ⟨.func #[9] #[49] false, 1, 8, [.v .nilFunc]⟩
def ti62 : TI := ⟨.func #[9, 9] #[3] false, 1, 8, [.v .nilFunc]⟩
def ti63 : TI := ⟨.func #[9, 5] #[3] false, 1, 8, [.v .nilFunc]⟩
def ti64 : TI := ⟨.func #[3] #[3] false, 1, 8, [.v .nilFunc]⟩
def ti65 : TI := ⟨.int .u64, 1, 8, [.v (.int .u64 0)]⟩
def ti66 : TI := ⟨.int .u32, 1, 4, [.v (.int .u32 0)]⟩
def ti68 : TI := ⟨.func #[9] #[66, 66] false, 1, 8, [.v .nilFunc]⟩
def ti69 : TI := ⟨.func #[] #[9] false, 1, 8, [.v .nilFunc]⟩
def ti75 : TI := ⟨.func #[] #[3] false, 1, 8, [.v .nilFunc]⟩
def ti79 : TI := ⟨.pointer 5, 1, 8, [.v (.pointer none)]⟩
def tyT : Nat → Option TI
  | 1 => some ti1
  | 2 => some ti2
  | 3 => some ti3
  | 4 => some ti4
  | 5 => some ti5
  | 9 => some ti9
  | 12 => some ti12
  | 17 => some ti17
  | 21 => some ti21
  | 22 => some ti22
  | 23 => some ti23
  | 25 => some ti25
  | 26 => some ti26
  | 27 => some ti27
  | 28 => some ti28
  | 29 => some ti29
  | 30 => some ti30
  | 31 => some ti31
  | 32 => some ti32
  | 33 => some ti33
  | 34 => some ti34
  | 35 => some ti35
  | 36 => some ti36
  | 37 => some ti37
  | 38 => some ti38
  | 39 => some ti39
  | 40 => some ti40
  | 41 => some ti41
  | 42 => some ti42
  | 43 => some ti43
  | 44 => some ti44
  | 45 => some ti45
  | 46 => some ti46
  | 47 => some ti47
  | 48 => some ti48
  | 49 => some ti49
  | 50 => some ti50
  | 51 => some ti51
  | 52 => some ti52
  | 53 => some ti53
  | 54 => some ti54
  | 55 => some ti55
  | 56 => some ti56
  | 57 => some ti57
  | 58 => some ti58
  | 59 => some ti59
  | 60 => some ti60
  | 61 => some ti61
  | 62 => some ti62
  | 63 => some ti63
  | 64 => some ti64
  | 65 => some ti65
  | 66 => some ti66
  | 68 => some ti68
  | 69 => some ti69
  | 75 => some ti75
  | 79 => some ti79
  | _ => none
def eqT : Nat → Option (List Kd)
  | 22 => some [.i, .i]
  | 23 => some [.i, .i]
  | 30 => some [.i, .i, .i, .i, .i, .i, .i, .i]
  | 31 => some [.i, .i, .i, .i, .i, .i, .i, .i]
  | 47 => some [.i, .i, .i, .i, .i, .s, .s, .s]
  | 48 => some [.i, .i, .i, .i, .i, .s, .s, .s]
  | _ => none
noncomputable def E : Env := ⟨Try.prog, tyT, eqT, none⟩
theorem tok1 : TyOk E.P 1 ti1 := tyOkV (z := .nilFunc) (by kernel_rfl) rfl (by kernel_rfl) (by kernel_rfl)
theorem tok2 : TyOk E.P 2 ti2 := tyOkV (z := (.int .i64 0)) (by kernel_rfl) rfl (by kernel_rfl) (by kernel_rfl)
theorem tok3 : TyOk E.P 3 ti3 := tyOkV (z := (.int .i64 0)) (by kernel_rfl) rfl (by kernel_rfl) (by kernel_rfl)
theorem tok4 : TyOk E.P 4 ti4 := tyOkV (z := (.bool false)) (by kernel_rfl) rfl (by kernel_rfl) (by kernel_rfl)
theorem tok5 : TyOk E.P 5 ti5 := tyOkV (z := (.int .u8 0)) (by kernel_rfl) rfl (by kernel_rfl) (by kernel_rfl)
theorem tok9 : TyOk E.P 9 ti9 := tyOkV (z := (.string ⟨#[]⟩)) (by kernel_rfl) rfl (by kernel_rfl) (by kernel_rfl)
theorem tok12 : TyOk E.P 12 ti12 := tyOkV (z := (.int .u64 0)) (by kernel_rfl) rfl (by kernel_rfl) (by kernel_rfl)
theorem tok17 : TyOk E.P 17 ti17 := tyOkV (z := (.pointer none)) (by kernel_rfl) rfl (by kernel_rfl) (by kernel_rfl)
theorem tok21 : TyOk E.P 21 ti21 := tyOkV (z := (.int .i32 0)) (by kernel_rfl) rfl (by kernel_rfl) (by kernel_rfl)
theorem tok22 : TyOk E.P 22 ti22 := tyOkV (z := (.agg #[(.int .i64 0), (.int .i64 0)])) (by kernel_rfl) rfl (by kernel_rfl) (by kernel_rfl)
theorem tok23 : TyOk E.P 23 ti23 := tyOkV (z := (.agg #[(.int .i64 0), (.int .i64 0)])) (by kernel_rfl) rfl (by kernel_rfl) (by kernel_rfl)
theorem tok25 : TyOk E.P 25 ti25 := tyOkV (z := .nilFunc) (by kernel_rfl) rfl (by kernel_rfl) (by kernel_rfl)
theorem tok26 : TyOk E.P 26 ti26 := tyOkV (z := .nilFunc) (by kernel_rfl) rfl (by kernel_rfl) (by kernel_rfl)
theorem tok27 : TyOk E.P 27 ti27 := tyOkV (z := .nilFunc) (by kernel_rfl) rfl (by kernel_rfl) (by kernel_rfl)
theorem tok28 : TyOk E.P 28 ti28 := tyOkV (z := .nilFunc) (by kernel_rfl) rfl (by kernel_rfl) (by kernel_rfl)
theorem tok29 : TyOk E.P 29 ti29 := tyOkV (z := (.slice none 0 0)) (by kernel_rfl) rfl (by kernel_rfl) (by kernel_rfl)
theorem tok30 : TyOk E.P 30 ti30 := tyOkV (z := (.agg #[(.int .i64 0), (.int .i64 0), (.int .i64 0), (.int .i64 0), (.int .i64 0), (.int .i64 0), (.int .i64 0), (.int .i64 0)])) (by kernel_rfl) rfl (by kernel_rfl) (by kernel_rfl)
theorem tok31 : TyOk E.P 31 ti31 := tyOkV (z := (.agg #[(.int .i64 0), (.int .i64 0), (.int .i64 0), (.int .i64 0), (.int .i64 0), (.int .i64 0), (.int .i64 0), (.int .i64 0)])) (by kernel_rfl) rfl (by kernel_rfl) (by kernel_rfl)
theorem tok32 : TyOk E.P 32 ti32 := tyOkV (z := .nilFunc) (by kernel_rfl) rfl (by kernel_rfl) (by kernel_rfl)
theorem tok33 : TyOk E.P 33 ti33 := tyOkV (z := .nilFunc) (by kernel_rfl) rfl (by kernel_rfl) (by kernel_rfl)
theorem tok34 : TyOk E.P 34 ti34 := tyOkV (z := .nilFunc) (by kernel_rfl) rfl (by kernel_rfl) (by kernel_rfl)
theorem tok35 : TyOk E.P 35 ti35 := tyOkV (z := .nilFunc) (by kernel_rfl) rfl (by kernel_rfl) (by kernel_rfl)
theorem tok36 : TyOk E.P 36 ti36 := tyOkV (z := .nilFunc) (by kernel_rfl) rfl (by kernel_rfl) (by kernel_rfl)
theorem tok37 : TyOk E.P 37 ti37 := tyOkV (z := .nilFunc) (by kernel_rfl) rfl (by kernel_rfl) (by kernel_rfl)
theorem tok38 : TyOk E.P 38 ti38 := tyOkV (z := .nilFunc) (by kernel_rfl) rfl (by kernel_rfl) (by kernel_rfl)
theorem tok39 : TyOk E.P 39 ti39 := tyOkV (z := .nilFunc) (by kernel_rfl) rfl (by kernel_rfl) (by kernel_rfl)
theorem tok40 : TyOk E.P 40 ti40 := tyOkV (z := .nilFunc) (by kernel_rfl) rfl (by kernel_rfl) (by kernel_rfl)
theorem tok41 : TyOk E.P 41 ti41 := tyOkV (z := .nilFunc) (by kernel_rfl) rfl (by kernel_rfl) (by kernel_rfl)
theorem tok42 : TyOk E.P 42 ti42 := tyOkV (z := .nilFunc) (by kernel_rfl) rfl (by kernel_rfl) (by kernel_rfl)
theorem tok43 : TyOk E.P 43 ti43 := tyOkV (z := (.slice none 0 0)) (by kernel_rfl) rfl (by kernel_rfl) (by kernel_rfl)
theorem tok44 : TyOk E.P 44 ti44 := tyOkV (z := .nilFunc) (by kernel_rfl) rfl (by kernel_rfl) (by kernel_rfl)
theorem tok45 : TyOk E.P 45 ti45 := tyOkV (z := .nilFunc) (by kernel_rfl) rfl (by kernel_rfl) (by kernel_rfl)
theorem tok46 : TyOk E.P 46 ti46 := tyOkV (z := .nilFunc) (by kernel_rfl) rfl (by kernel_rfl) (by kernel_rfl)
theorem tok47 : TyOk E.P 47 ti47 := tyOkV (z := (.agg #[(.int .i64 0), (.int .i64 0), (.int .i64 0), (.int .i64 0), (.int .i64 0), (.string ⟨#[]⟩), (.string ⟨#[]⟩), (.string ⟨#[]⟩)])) (by kernel_rfl) rfl (by kernel_rfl) (by kernel_rfl)
theorem tok48 : TyOk E.P 48 ti48 := tyOkV (z := (.agg #[(.int .i64 0), (.int .i64 0), (.int .i64 0), (.int .i64 0), (.int .i64 0), (.string ⟨#[]⟩), (.string ⟨#[]⟩), (.string ⟨#[]⟩)])) (by kernel_rfl) rfl (by kernel_rfl) (by kernel_rfl)
theorem tok49 : TyOk E.P 49 ti49 := tyOkV (z := (.int .i64 0)) (by kernel_rfl) rfl (by kernel_rfl) (by kernel_rfl)
theorem tok50 : TyOk E.P 50 ti50 := tyOkV (z := .nilFunc) (by kernel_rfl) rfl (by kernel_rfl) (by kernel_rfl)
theorem tok51 : TyOk E.P 51 ti51 := tyOkV (z := .nilFunc) (by kernel_rfl) rfl (by kernel_rfl) (by kernel_rfl)
theorem tok52 : TyOk E.P 52 ti52 := tyOkV (z := .nilFunc) (by kernel_rfl) rfl (by kernel_rfl) (by kernel_rfl)
theorem tok53 : TyOk E.P 53 ti53 := tyOkV (z := .nilFunc) (by kernel_rfl) rfl (by kernel_rfl) (by kernel_rfl)
theorem tok54 : TyOk E.P 54 ti54 := tyOkV (z := .nilFunc) (by kernel_rfl) rfl (by kernel_rfl) (by kernel_rfl)
theorem tok55 : TyOk E.P 55 ti55 := tyOkV (z := .nilFunc) (by kernel_rfl) rfl (by kernel_rfl) (by kernel_rfl)
theorem tok56 : TyOk E.P 56 ti56 := tyOkV (z := .nilFunc) (by kernel_rfl) rfl (by kernel_rfl) (by kernel_rfl)
theorem tok57 : TyOk E.P 57 ti57 := tyOkV (z := .nilFunc) (by kernel_rfl) rfl (by kernel_rfl) (by kernel_rfl)
theorem tok58 : TyOk E.P 58 ti58 := tyOkV (z := .nilFunc) (by kernel_rfl) rfl (by kernel_rfl) (by kernel_rfl)
theorem tok59 : TyOk E.P 59 ti59 := tyOkV (z := (.slice none 0 0)) (by kernel_rfl) rfl (by kernel_rfl) (by kernel_rfl)
theorem tok60 : TyOk E.P 60 ti60 := tyOkV (z := .nilFunc) (by kernel_rfl) rfl (by kernel_rfl) (by kernel_rfl)
theorem tok61 : TyOk E.P 61 ti61 := tyOkV (z := .nilFunc) (by kernel_rfl) rfl (by kernel_rfl) (by kernel_rfl)
theorem tok62 : TyOk E.P 62 ti62 := tyOkV (z := .nilFunc) (by kernel_rfl) rfl (by kernel_rfl) (by kernel_rfl)
theorem tok63 : TyOk E.P 63 ti63 := tyOkV (z := .nilFunc) (by kernel_rfl) rfl (by kernel_rfl) (by kernel_rfl)
theorem tok64 : TyOk E.P 64 ti64 := tyOkV (z := .nilFunc) (by kernel_rfl) rfl (by kernel_rfl) (by kernel_rfl)
theorem tok65 : TyOk E.P 65 ti65 := tyOkV (z := (.int .u64 0)) (by kernel_rfl) rfl (by kernel_rfl) (by kernel_rfl)
theorem tok66 : TyOk E.P 66 ti66 := tyOkV (z := (.int .u32 0)) (by kernel_rfl) rfl (by kernel_rfl) (by kernel_rfl)
theorem tok68 : TyOk E.P 68 ti68 := tyOkV (z := .nilFunc) (by kernel_rfl) rfl (by kernel_rfl) (by kernel_rfl)
theorem tok69 : TyOk E.P 69 ti69 := tyOkV (z := .nilFunc) (by kernel_rfl) rfl (by kernel_rfl) (by kernel_rfl)
theorem tok75 : TyOk E.P 75 ti75 := tyOkV (z := .nilFunc) (by kernel_rfl) rfl (by kernel_rfl) (by kernel_rfl)
theorem tok79 : TyOk E.P 79 ti79 := tyOkV (z := (.pointer none)) (by kernel_rfl) rfl (by kernel_rfl) (by kernel_rfl)
theorem eOk : E.Ok := by
  intro t i h
  have h' : tyT t = some i := h
  unfold tyT at h'
  split at h' <;> first
    | (cases h'; first | exact tok1 | exact tok2 | exact tok3 | exact tok4 | exact tok5 | exact tok9 | exact tok12 | exact tok17 | exact tok21 | exact tok22 | exact tok23 | exact tok25 | exact tok26 | exact tok27 | exact tok28 | exact tok29 | exact tok30 | exact tok31 | exact tok32 | exact tok33 | exact tok34 | exact tok35 | exact tok36 | exact tok37 | exact tok38 | exact tok39 | exact tok40 | exact tok41 | exact tok42 | exact tok43 | exact tok44 | exact tok45 | exact tok46 | exact tok47 | exact tok48 | exact tok49 | exact tok50 | exact tok51 | exact tok52 | exact tok53 | exact tok54 | exact tok55 | exact tok56 | exact tok57 | exact tok58 | exact tok59 | exact tok60 | exact tok61 | exact tok62 | exact tok63 | exact tok64 | exact tok65 | exact tok66 | exact tok68 | exact tok69 | exact tok75 | exact tok79)
    | cases h'
theorem eEq : E.EqOk := by
  intro t ks h
  have h' : eqT t = some ks := h
  unfold eqT at h'
  split at h' <;> first
    | (cases h'; exact ⟨by kernel_rfl, by kernel_rfl, by kernel_rfl⟩)
    | cases h'
theorem eGood : Go.Ev.Good E := ⟨eOk, eEq, by kernel_rfl⟩
structure GStamp where
  Time : Int
  Site : Int
instance : Inhabited GStamp := ⟨⟨default, default⟩⟩
structure GOp where
  Stamp : GStamp
  Kind : Int
  Node : Int
  Parent : Int
  Name : List UInt8
  Key : List UInt8
  Value : List UInt8
instance : Inhabited GOp := ⟨⟨default, default, default, default, default, default, default⟩⟩
@[reducible] def τ : Nat → Type
  | 2 => Int
  | 3 => Int
  | 4 => Bool
  | 5 => Int
  | 9 => List UInt8
  | 12 => Int
  | 21 => Int
  | 22 => GStamp
  | 23 => GStamp
  | 29 => List (Vector (Int) 8)
  | 30 => Vector (Int) 8
  | 31 => Vector (Int) 8
  | 43 => List (GStamp)
  | 47 => GOp
  | 48 => GOp
  | 49 => Int
  | 59 => List (Int)
  | 65 => Int
  | 66 => Int
  | _ => Unit
def cel2 (x : Int) : List AV := [.v (.int .i64 x)]
def enc2 (x : Int) : TV τ := .int .i64 x
def dec2 (x : TV τ) : Option (Int) := dInt .i64 x
def beq2 (x y : Int) : Bool := (x == y)
def cel3 (x : Int) : List AV := [.v (.int .i64 x)]
def enc3 (x : Int) : TV τ := .int .i64 x
def dec3 (x : TV τ) : Option (Int) := dInt .i64 x
def beq3 (x y : Int) : Bool := (x == y)
def cel4 (x : Bool) : List AV := [.v (.bool x)]
def enc4 (x : Bool) : TV τ := .bool x
def dec4 (x : TV τ) : Option (Bool) := dBool x
def beq4 (x y : Bool) : Bool := (x == y)
def cel5 (x : Int) : List AV := [.v (.int .u8 x)]
def enc5 (x : Int) : TV τ := .int .u8 x
def dec5 (x : TV τ) : Option (Int) := dInt .u8 x
def beq5 (x y : Int) : Bool := (x == y)
def cel9 (x : List UInt8) : List AV := [.v (.string ⟨⟨x⟩⟩)]
def enc9 (x : List UInt8) : TV τ := .str x
def dec9 (x : TV τ) : Option (List UInt8) := dStr x
def beq9 (x y : List UInt8) : Bool := (x == y)
def cel12 (x : Int) : List AV := [.v (.int .u64 x)]
def enc12 (x : Int) : TV τ := .int .u64 x
def dec12 (x : TV τ) : Option (Int) := dInt .u64 x
def beq12 (x y : Int) : Bool := (x == y)
def cel21 (x : Int) : List AV := [.v (.int .i32 x)]
def enc21 (x : Int) : TV τ := .int .i32 x
def dec21 (x : TV τ) : Option (Int) := dInt .i32 x
def beq21 (x y : Int) : Bool := (x == y)
def cel22 (x : GStamp) : List AV := (cel2 x.Time ++ (cel3 x.Site ++ []))
def enc22 (x : GStamp) : TV τ := .agg [enc2 x.Time, enc3 x.Site]
def dec22 (x : TV τ) : Option (GStamp) := (match x with | .agg [x0, x1] => (match dec2 x0 with | some a0 => (match dec3 x1 with | some a1 => some ⟨a0, a1⟩ | none => none) | none => none) | _ => none)
def beq22 (x y : GStamp) : Bool := (beq2 x.Time y.Time && (beq3 x.Site y.Site && true))
def cel23 (x : GStamp) : List AV := (cel2 x.Time ++ (cel3 x.Site ++ []))
def enc23 (x : GStamp) : TV τ := .agg [enc2 x.Time, enc3 x.Site]
def dec23 (x : TV τ) : Option (GStamp) := (match x with | .agg [x0, x1] => (match dec2 x0 with | some a0 => (match dec3 x1 with | some a1 => some ⟨a0, a1⟩ | none => none) | none => none) | _ => none)
def beq23 (x y : GStamp) : Bool := (beq2 x.Time y.Time && (beq3 x.Site y.Site && true))
def cel31 (x : Vector (Int) 8) : List AV := x.toList.flatMap cel2
def enc31 (x : Vector (Int) 8) : TV τ := .arr 2 8 x
def dec31 (x : TV τ) : Option (Vector (Int) 8) := dArr 2 8 x
def beq31 (x y : Vector (Int) 8) : Bool := vbeq beq2 x y
def cel29 (x : List (Vector (Int) 8)) : List AV := [.asl 8 (x.map cel31)]
def enc29 (x : List (Vector (Int) 8)) : TV τ := .sl 31 x .any
def dec29 (x : TV τ) : Option (List (Vector (Int) 8)) := dSl 31 x
def cel30 (x : Vector (Int) 8) : List AV := x.toList.flatMap cel2
def enc30 (x : Vector (Int) 8) : TV τ := .arr 2 8 x
def dec30 (x : TV τ) : Option (Vector (Int) 8) := dArr 2 8 x
def beq30 (x y : Vector (Int) 8) : Bool := vbeq beq2 x y
def cel43 (x : List (GStamp)) : List AV := [.asl 2 (x.map cel23)]
def enc43 (x : List (GStamp)) : TV τ := .sl 23 x .any
def dec43 (x : TV τ) : Option (List (GStamp)) := dSl 23 x
def cel47 (x : GOp) : List AV := (cel23 x.Stamp ++ (cel3 x.Kind ++ (cel2 x.Node ++ (cel2 x.Parent ++ (cel9 x.Name ++ (cel9 x.Key ++ (cel9 x.Value ++ [])))))))
def enc47 (x : GOp) : TV τ := .agg [enc23 x.Stamp, enc3 x.Kind, enc2 x.Node, enc2 x.Parent, enc9 x.Name, enc9 x.Key, enc9 x.Value]
def dec47 (x : TV τ) : Option (GOp) := (match x with | .agg [x0, x1, x2, x3, x4, x5, x6] => (match dec23 x0 with | some a0 => (match dec3 x1 with | some a1 => (match dec2 x2 with | some a2 => (match dec2 x3 with | some a3 => (match dec9 x4 with | some a4 => (match dec9 x5 with | some a5 => (match dec9 x6 with | some a6 => some ⟨a0, a1, a2, a3, a4, a5, a6⟩ | none => none) | none => none) | none => none) | none => none) | none => none) | none => none) | none => none) | _ => none)
def beq47 (x y : GOp) : Bool := (beq23 x.Stamp y.Stamp && (beq3 x.Kind y.Kind && (beq2 x.Node y.Node && (beq2 x.Parent y.Parent && (beq9 x.Name y.Name && (beq9 x.Key y.Key && (beq9 x.Value y.Value && true)))))))
def cel48 (x : GOp) : List AV := (cel23 x.Stamp ++ (cel3 x.Kind ++ (cel2 x.Node ++ (cel2 x.Parent ++ (cel9 x.Name ++ (cel9 x.Key ++ (cel9 x.Value ++ [])))))))
def enc48 (x : GOp) : TV τ := .agg [enc23 x.Stamp, enc3 x.Kind, enc2 x.Node, enc2 x.Parent, enc9 x.Name, enc9 x.Key, enc9 x.Value]
def dec48 (x : TV τ) : Option (GOp) := (match x with | .agg [x0, x1, x2, x3, x4, x5, x6] => (match dec23 x0 with | some a0 => (match dec3 x1 with | some a1 => (match dec2 x2 with | some a2 => (match dec2 x3 with | some a3 => (match dec9 x4 with | some a4 => (match dec9 x5 with | some a5 => (match dec9 x6 with | some a6 => some ⟨a0, a1, a2, a3, a4, a5, a6⟩ | none => none) | none => none) | none => none) | none => none) | none => none) | none => none) | none => none) | _ => none)
def beq48 (x y : GOp) : Bool := (beq23 x.Stamp y.Stamp && (beq3 x.Kind y.Kind && (beq2 x.Node y.Node && (beq2 x.Parent y.Parent && (beq9 x.Name y.Name && (beq9 x.Key y.Key && (beq9 x.Value y.Value && true)))))))
def cel49 (x : Int) : List AV := [.v (.int .i64 x)]
def enc49 (x : Int) : TV τ := .int .i64 x
def dec49 (x : TV τ) : Option (Int) := dInt .i64 x
def beq49 (x y : Int) : Bool := (x == y)
def cel59 (x : List (Int)) : List AV := [.asl 1 (x.map cel3)]
def enc59 (x : List (Int)) : TV τ := .sl 3 x .any
def dec59 (x : TV τ) : Option (List (Int)) := dSl 3 x
def cel65 (x : Int) : List AV := [.v (.int .u64 x)]
def enc65 (x : Int) : TV τ := .int .u64 x
def dec65 (x : TV τ) : Option (Int) := dInt .u64 x
def beq65 (x y : Int) : Bool := (x == y)
def cel66 (x : Int) : List AV := [.v (.int .u32 x)]
def enc66 (x : Int) : TV τ := .int .u32 x
def dec66 (x : TV τ) : Option (Int) := dInt .u32 x
def beq66 (x y : Int) : Bool := (x == y)
def celT : (t : Nat) → τ t → List AV
  | 2 => cel2
  | 3 => cel3
  | 4 => cel4
  | 5 => cel5
  | 9 => cel9
  | 12 => cel12
  | 21 => cel21
  | 22 => cel22
  | 23 => cel23
  | 29 => cel29
  | 30 => cel30
  | 31 => cel31
  | 43 => cel43
  | 47 => cel47
  | 48 => cel48
  | 49 => cel49
  | 59 => cel59
  | 65 => cel65
  | 66 => cel66
  | _ => fun _ => []
def encT : (t : Nat) → τ t → TV τ
  | 2 => enc2
  | 3 => enc3
  | 4 => enc4
  | 5 => enc5
  | 9 => enc9
  | 12 => enc12
  | 21 => enc21
  | 22 => enc22
  | 23 => enc23
  | 29 => enc29
  | 30 => enc30
  | 31 => enc31
  | 43 => enc43
  | 47 => enc47
  | 48 => enc48
  | 49 => enc49
  | 59 => enc59
  | 65 => enc65
  | 66 => enc66
  | _ => fun _ => .agg []
def decT : (t : Nat) → TV τ → Option (τ t)
  | 2 => dec2
  | 3 => dec3
  | 4 => dec4
  | 5 => dec5
  | 9 => dec9
  | 12 => dec12
  | 21 => dec21
  | 22 => dec22
  | 23 => dec23
  | 29 => dec29
  | 30 => dec30
  | 31 => dec31
  | 43 => dec43
  | 47 => dec47
  | 48 => dec48
  | 49 => dec49
  | 59 => dec59
  | 65 => dec65
  | 66 => dec66
  | _ => fun _ => none
theorem dfN (t : Nat) : Nonempty (τ t) := by unfold τ; split <;> exact ⟨default⟩
noncomputable def dfX (t : Nat) : τ t := Classical.choice (dfN t)
noncomputable def dfT : (t : Nat) → τ t
  | 2 => (default : Int)
  | 3 => (default : Int)
  | 4 => (default : Bool)
  | 5 => (default : Int)
  | 9 => (default : List UInt8)
  | 12 => (default : Int)
  | 21 => (default : Int)
  | 22 => (default : GStamp)
  | 23 => (default : GStamp)
  | 29 => (default : List (Vector (Int) 8))
  | 30 => (default : Vector (Int) 8)
  | 31 => (default : Vector (Int) 8)
  | 43 => (default : List (GStamp))
  | 47 => (default : GOp)
  | 48 => (default : GOp)
  | 49 => (default : Int)
  | 59 => (default : List (Int))
  | 65 => (default : Int)
  | 66 => (default : Int)
  | t => dfX t
def szT : Nat → Nat
  | 2 => 1
  | 3 => 1
  | 4 => 1
  | 5 => 1
  | 9 => 1
  | 12 => 1
  | 21 => 1
  | 22 => 2
  | 23 => 2
  | 29 => 1
  | 30 => 8
  | 31 => 8
  | 43 => 1
  | 47 => 8
  | 48 => 8
  | 49 => 1
  | 59 => 1
  | 65 => 1
  | 66 => 1
  | _ => 0
def kdT : Nat → Option (List Kd)
  | 2 => some [.i]
  | 3 => some [.i]
  | 4 => some [.b]
  | 5 => some [.i]
  | 9 => some [.s]
  | 12 => some [.i]
  | 21 => some [.i]
  | 22 => some [.i, .i]
  | 23 => some [.i, .i]
  | 30 => some [.i, .i, .i, .i, .i, .i, .i, .i]
  | 31 => some [.i, .i, .i, .i, .i, .i, .i, .i]
  | 47 => some [.i, .i, .i, .i, .i, .s, .s, .s]
  | 48 => some [.i, .i, .i, .i, .i, .s, .s, .s]
  | 49 => some [.i]
  | 65 => some [.i]
  | 66 => some [.i]
  | _ => none
def beqT : (t : Nat) → τ t → τ t → Bool
  | 2 => beq2
  | 3 => beq3
  | 4 => beq4
  | 5 => beq5
  | 9 => beq9
  | 12 => beq12
  | 21 => beq21
  | 22 => beq22
  | 23 => beq23
  | 30 => beq30
  | 31 => beq31
  | 47 => beq47
  | 48 => beq48
  | 49 => beq49
  | 65 => beq65
  | 66 => beq66
  | _ => fun _ _ => false
def b2sT : (t : Nat) → List (τ t) → Option (List UInt8)
  | 5 => fun (l : List Int) => some (strI l)
  | _ => fun _ => none
def s2bT : (t : Nat) → List UInt8 → Option (List (τ t))
  | 5 => fun s => some (bytesI s)
  | _ => fun _ => none
noncomputable def siteT : Nat → Nat → Array Tmp × Code × Code := fun f k => (#[], .skip, .skip)
noncomputable def C : Cod τ := ⟨celT, encT, decT, dfT, szT, kdT, beqT, b2sT, s2bT, siteT⟩
theorem law2 : CodAt C 2 := ⟨fun x => rfl, fun x => rfl, fun x a h => by rw [dInt_x (show dInt .i64 x = some a from h)]; exact .refl _, fun x => rfl, fun x a h => by rw [dInt_x (show dInt .i64 x = some a from h)]; rfl, fun x a h => by rw [dInt_x (show dInt .i64 x = some a from h)]; rfl, fun a => rfl, fun a => noids_one (NoId.v _), fun ks h a b => by cases h; simp [eqCells, scal, C, celT, cel2, beqT, beq2], (fun l s h => nomatch h), (fun s l h => nomatch h)⟩
theorem law3 : CodAt C 3 := ⟨fun x => rfl, fun x => rfl, fun x a h => by rw [dInt_x (show dInt .i64 x = some a from h)]; exact .refl _, fun x => rfl, fun x a h => by rw [dInt_x (show dInt .i64 x = some a from h)]; rfl, fun x a h => by rw [dInt_x (show dInt .i64 x = some a from h)]; rfl, fun a => rfl, fun a => noids_one (NoId.v _), fun ks h a b => by cases h; simp [eqCells, scal, C, celT, cel3, beqT, beq3], (fun l s h => nomatch h), (fun s l h => nomatch h)⟩
theorem law4 : CodAt C 4 := ⟨fun x => rfl, fun x => rfl, fun x a h => by rw [dBool_x (show dBool x = some a from h)]; exact .refl _, fun x => rfl, fun x a h => by rw [dBool_x (show dBool x = some a from h)]; rfl, fun x a h => by rw [dBool_x (show dBool x = some a from h)]; rfl, fun a => rfl, fun a => noids_one (NoId.v _), fun ks h a b => by cases h; simp [eqCells, scal, C, celT, cel4, beqT, beq4], (fun l s h => nomatch h), (fun s l h => nomatch h)⟩
theorem law5 : CodAt C 5 := ⟨fun x => rfl, fun x => rfl, fun x a h => by rw [dInt_x (show dInt .u8 x = some a from h)]; exact .refl _, fun x => rfl, fun x a h => by rw [dInt_x (show dInt .u8 x = some a from h)]; rfl, fun x a h => by rw [dInt_x (show dInt .u8 x = some a from h)]; rfl, fun a => rfl, fun a => noids_one (NoId.v _), fun ks h a b => by cases h; simp [eqCells, scal, C, celT, cel5, beqT, beq5], fun l s h => ⟨rfl, (unbytes_int l).trans h⟩, fun s l h => ⟨rfl, by cases h; show (bytesI s).map cel5 = _; simp [bytesI, cel5, byteCell]⟩⟩
theorem law9 : CodAt C 9 := ⟨fun x => rfl, fun x => rfl, fun x a h => by rw [dStr_x (show dStr x = some a from h)]; exact .refl _, fun x => rfl, fun x a h => by rw [dStr_x (show dStr x = some a from h)]; rfl, fun x a h => by rw [dStr_x (show dStr x = some a from h)]; rfl, fun a => rfl, fun a => noids_one (NoId.v _), fun ks h a b => by cases h; simp [eqCells, scal, C, celT, cel9, beqT, beq9], (fun l s h => nomatch h), (fun s l h => nomatch h)⟩
theorem law12 : CodAt C 12 := ⟨fun x => rfl, fun x => rfl, fun x a h => by rw [dInt_x (show dInt .u64 x = some a from h)]; exact .refl _, fun x => rfl, fun x a h => by rw [dInt_x (show dInt .u64 x = some a from h)]; rfl, fun x a h => by rw [dInt_x (show dInt .u64 x = some a from h)]; rfl, fun a => rfl, fun a => noids_one (NoId.v _), fun ks h a b => by cases h; simp [eqCells, scal, C, celT, cel12, beqT, beq12], (fun l s h => nomatch h), (fun s l h => nomatch h)⟩
theorem law21 : CodAt C 21 := ⟨fun x => rfl, fun x => rfl, fun x a h => by rw [dInt_x (show dInt .i32 x = some a from h)]; exact .refl _, fun x => rfl, fun x a h => by rw [dInt_x (show dInt .i32 x = some a from h)]; rfl, fun x a h => by rw [dInt_x (show dInt .i32 x = some a from h)]; rfl, fun a => rfl, fun a => noids_one (NoId.v _), fun ks h a b => by cases h; simp [eqCells, scal, C, celT, cel21, beqT, beq21], (fun l s h => nomatch h), (fun s l h => nomatch h)⟩
theorem decx22 {x : TV τ} {a : GStamp} (h : dec22 x = some a) : ∃ x0 x1, x = .agg [x0, x1] ∧ dec2 x0 = some a.Time ∧ dec3 x1 = some a.Site := by
  unfold dec22 at h
  split at h
  · rename_i x0 x1
    split at h
    · rename_i a0 h0
      split at h
      · rename_i a1 h1
        cases h
        exact ⟨_, _, rfl, h0, h1⟩
      · cases h
    · cases h
  · cases h
theorem law22 : CodAt C 22 := ⟨fun x => by show ((enc2 x.Time).cells C ++ ((enc3 x.Site).cells C ++ [])) = cel22 x; unfold cel22; exact congr (congrArg (· ++ ·) (law2.cel x.Time)) (congr (congrArg (· ++ ·) (law3.cel x.Site)) (rfl)), fun x => by show ((cel2 x.Time ++ (cel3 x.Site ++ []))).length = 2; rw [List.length_append, List.length_append]; have e0 : (cel2 x.Time).length = 1 := law2.len x.Time; have e1 : (cel3 x.Site).length = 1 := law3.len x.Site; simp only [e0, e1, List.length_nil], fun x a h => by obtain ⟨x0, x1, rfl, h0, h1⟩ := decx22 (show dec22 x = some a from h); exact CW.append (law2.dec _ _ h0) (CW.append (law3.dec _ _ h1) (CW.refl [])), fun x => by show (((enc2 x.Time).ok && ((enc3 x.Site).ok && true))) = true; simp only [show (enc2 x.Time).ok = true from law2.ok _, show (enc3 x.Site).ok = true from law3.ok _, Bool.and_self], fun x a h => by obtain ⟨x0, x1, rfl, h0, h1⟩ := decx22 (show dec22 x = some a from h); show ((x0.ok && (x1.ok && true))) = true; simp only [law2.decok _ _ h0, law3.decok _ _ h1, Bool.and_self], fun x a h => by obtain ⟨x0, x1, rfl, h0, h1⟩ := decx22 (show dec22 x = some a from h); rfl, fun x => by show ((cel2 x.Time ++ (cel3 x.Site ++ []))).all AV.one = true; simp only [List.all_append, List.all_nil, show (cel2 x.Time).all AV.one = true from law2.one _, show (cel3 x.Site).all AV.one = true from law3.one _, Bool.and_self], fun x => noids_app (law2.noid x.Time) (noids_app (law3.noid x.Site) (trivial)), fun ks h a b => by have := eqCells_append (law2.kd _ rfl a.Time b.Time) (eqCells_append (law3.kd _ rfl a.Site b.Site) ((show eqCells [] [] [] = some true from rfl))); cases h; exact this, (fun l s h => nomatch h), (fun s l h => nomatch h)⟩
theorem decx23 {x : TV τ} {a : GStamp} (h : dec23 x = some a) : ∃ x0 x1, x = .agg [x0, x1] ∧ dec2 x0 = some a.Time ∧ dec3 x1 = some a.Site := by
  unfold dec23 at h
  split at h
  · rename_i x0 x1
    split at h
    · rename_i a0 h0
      split at h
      · rename_i a1 h1
        cases h
        exact ⟨_, _, rfl, h0, h1⟩
      · cases h
    · cases h
  · cases h
theorem law23 : CodAt C 23 := ⟨fun x => by show ((enc2 x.Time).cells C ++ ((enc3 x.Site).cells C ++ [])) = cel23 x; unfold cel23; exact congr (congrArg (· ++ ·) (law2.cel x.Time)) (congr (congrArg (· ++ ·) (law3.cel x.Site)) (rfl)), fun x => by show ((cel2 x.Time ++ (cel3 x.Site ++ []))).length = 2; rw [List.length_append, List.length_append]; have e0 : (cel2 x.Time).length = 1 := law2.len x.Time; have e1 : (cel3 x.Site).length = 1 := law3.len x.Site; simp only [e0, e1, List.length_nil], fun x a h => by obtain ⟨x0, x1, rfl, h0, h1⟩ := decx23 (show dec23 x = some a from h); exact CW.append (law2.dec _ _ h0) (CW.append (law3.dec _ _ h1) (CW.refl [])), fun x => by show (((enc2 x.Time).ok && ((enc3 x.Site).ok && true))) = true; simp only [show (enc2 x.Time).ok = true from law2.ok _, show (enc3 x.Site).ok = true from law3.ok _, Bool.and_self], fun x a h => by obtain ⟨x0, x1, rfl, h0, h1⟩ := decx23 (show dec23 x = some a from h); show ((x0.ok && (x1.ok && true))) = true; simp only [law2.decok _ _ h0, law3.decok _ _ h1, Bool.and_self], fun x a h => by obtain ⟨x0, x1, rfl, h0, h1⟩ := decx23 (show dec23 x = some a from h); rfl, fun x => by show ((cel2 x.Time ++ (cel3 x.Site ++ []))).all AV.one = true; simp only [List.all_append, List.all_nil, show (cel2 x.Time).all AV.one = true from law2.one _, show (cel3 x.Site).all AV.one = true from law3.one _, Bool.and_self], fun x => noids_app (law2.noid x.Time) (noids_app (law3.noid x.Site) (trivial)), fun ks h a b => by have := eqCells_append (law2.kd _ rfl a.Time b.Time) (eqCells_append (law3.kd _ rfl a.Site b.Site) ((show eqCells [] [] [] = some true from rfl))); cases h; exact this, (fun l s h => nomatch h), (fun s l h => nomatch h)⟩
theorem law31 : CodAt C 31 := ⟨fun x => rfl, fun x => length_flat law2 x, fun x a h => by rw [dArr_x (show dArr 2 8 x = some a from h)]; exact .refl _, fun x => rfl, fun x a h => by rw [dArr_x (show dArr 2 8 x = some a from h)]; rfl, fun x a h => by rw [dArr_x (show dArr 2 8 x = some a from h)]; rfl, fun a => one_flat law2 a.toList, fun a => noid_flat law2 a.toList, fun ks h a b => by have := eqCells_arr' law2 (show C.kd 2 = some _ from rfl) a.toList b.toList (by simp); simp only [Vector.length_toList] at this; cases h; exact this, (fun l s h => nomatch h), (fun s l h => nomatch h)⟩
theorem law29 : CodAt C 29 := ⟨fun x => rfl, fun x => rfl, fun x a h => (dSl_cw (C := C) (show dSl 31 x = some a from h)).1, fun x => rfl, fun x a h => (dSl_cw (C := C) (show dSl 31 x = some a from h)).2.1, fun x a h => (dSl_cw (C := C) (show dSl 31 x = some a from h)).2.2, fun a => rfl, fun a => noids_one (NoId.asl fun cs hc => by obtain ⟨y, _, rfl⟩ := List.mem_map.1 hc; exact law31.noid y), (fun ks h => nomatch h), (fun l s h => nomatch h), (fun s l h => nomatch h)⟩
theorem law30 : CodAt C 30 := ⟨fun x => rfl, fun x => length_flat law2 x, fun x a h => by rw [dArr_x (show dArr 2 8 x = some a from h)]; exact .refl _, fun x => rfl, fun x a h => by rw [dArr_x (show dArr 2 8 x = some a from h)]; rfl, fun x a h => by rw [dArr_x (show dArr 2 8 x = some a from h)]; rfl, fun a => one_flat law2 a.toList, fun a => noid_flat law2 a.toList, fun ks h a b => by have := eqCells_arr' law2 (show C.kd 2 = some _ from rfl) a.toList b.toList (by simp); simp only [Vector.length_toList] at this; cases h; exact this, (fun l s h => nomatch h), (fun s l h => nomatch h)⟩
theorem law43 : CodAt C 43 := ⟨fun x => rfl, fun x => rfl, fun x a h => (dSl_cw (C := C) (show dSl 23 x = some a from h)).1, fun x => rfl, fun x a h => (dSl_cw (C := C) (show dSl 23 x = some a from h)).2.1, fun x a h => (dSl_cw (C := C) (show dSl 23 x = some a from h)).2.2, fun a => rfl, fun a => noids_one (NoId.asl fun cs hc => by obtain ⟨y, _, rfl⟩ := List.mem_map.1 hc; exact law23.noid y), (fun ks h => nomatch h), (fun l s h => nomatch h), (fun s l h => nomatch h)⟩
theorem decx47 {x : TV τ} {a : GOp} (h : dec47 x = some a) : ∃ x0 x1 x2 x3 x4 x5 x6, x = .agg [x0, x1, x2, x3, x4, x5, x6] ∧ dec23 x0 = some a.Stamp ∧ dec3 x1 = some a.Kind ∧ dec2 x2 = some a.Node ∧ dec2 x3 = some a.Parent ∧ dec9 x4 = some a.Name ∧ dec9 x5 = some a.Key ∧ dec9 x6 = some a.Value := by
  unfold dec47 at h
  split at h
  · rename_i x0 x1 x2 x3 x4 x5 x6
    split at h
    · rename_i a0 h0
      split at h
      · rename_i a1 h1
        split at h
        · rename_i a2 h2
          split at h
          · rename_i a3 h3
            split at h
            · rename_i a4 h4
              split at h
              · rename_i a5 h5
                split at h
                · rename_i a6 h6
                  cases h
                  exact ⟨_, _, _, _, _, _, _, rfl, h0, h1, h2, h3, h4, h5, h6⟩
                · cases h
              · cases h
            · cases h
          · cases h
        · cases h
      · cases h
    · cases h
  · cases h
theorem law47 : CodAt C 47 := ⟨fun x => by show ((enc23 x.Stamp).cells C ++ ((enc3 x.Kind).cells C ++ ((enc2 x.Node).cells C ++ ((enc2 x.Parent).cells C ++ ((enc9 x.Name).cells C ++ ((enc9 x.Key).cells C ++ ((enc9 x.Value).cells C ++ []))))))) = cel47 x; unfold cel47; exact congr (congrArg (· ++ ·) (law23.cel x.Stamp)) (congr (congrArg (· ++ ·) (law3.cel x.Kind)) (congr (congrArg (· ++ ·) (law2.cel x.Node)) (congr (congrArg (· ++ ·) (law2.cel x.Parent)) (congr (congrArg (· ++ ·) (law9.cel x.Name)) (congr (congrArg (· ++ ·) (law9.cel x.Key)) (congr (congrArg (· ++ ·) (law9.cel x.Value)) (rfl))))))), fun x => by show ((cel23 x.Stamp ++ (cel3 x.Kind ++ (cel2 x.Node ++ (cel2 x.Parent ++ (cel9 x.Name ++ (cel9 x.Key ++ (cel9 x.Value ++ [])))))))).length = 8; rw [List.length_append, List.length_append, List.length_append, List.length_append, List.length_append, List.length_append, List.length_append]; have e0 : (cel23 x.Stamp).length = 2 := law23.len x.Stamp; have e1 : (cel3 x.Kind).length = 1 := law3.len x.Kind; have e2 : (cel2 x.Node).length = 1 := law2.len x.Node; have e3 : (cel2 x.Parent).length = 1 := law2.len x.Parent; have e4 : (cel9 x.Name).length = 1 := law9.len x.Name; have e5 : (cel9 x.Key).length = 1 := law9.len x.Key; have e6 : (cel9 x.Value).length = 1 := law9.len x.Value; simp only [e0, e1, e2, e3, e4, e5, e6, List.length_nil], fun x a h => by obtain ⟨x0, x1, x2, x3, x4, x5, x6, rfl, h0, h1, h2, h3, h4, h5, h6⟩ := decx47 (show dec47 x = some a from h); exact CW.append (law23.dec _ _ h0) (CW.append (law3.dec _ _ h1) (CW.append (law2.dec _ _ h2) (CW.append (law2.dec _ _ h3) (CW.append (law9.dec _ _ h4) (CW.append (law9.dec _ _ h5) (CW.append (law9.dec _ _ h6) (CW.refl []))))))), fun x => by show (((enc23 x.Stamp).ok && ((enc3 x.Kind).ok && ((enc2 x.Node).ok && ((enc2 x.Parent).ok && ((enc9 x.Name).ok && ((enc9 x.Key).ok && ((enc9 x.Value).ok && true)))))))) = true; simp only [show (enc23 x.Stamp).ok = true from law23.ok _, show (enc3 x.Kind).ok = true from law3.ok _, show (enc2 x.Node).ok = true from law2.ok _, show (enc2 x.Parent).ok = true from law2.ok _, show (enc9 x.Name).ok = true from law9.ok _, show (enc9 x.Key).ok = true from law9.ok _, show (enc9 x.Value).ok = true from law9.ok _, Bool.and_self], fun x a h => by obtain ⟨x0, x1, x2, x3, x4, x5, x6, rfl, h0, h1, h2, h3, h4, h5, h6⟩ := decx47 (show dec47 x = some a from h); show ((x0.ok && (x1.ok && (x2.ok && (x3.ok && (x4.ok && (x5.ok && (x6.ok && true)))))))) = true; simp only [law23.decok _ _ h0, law3.decok _ _ h1, law2.decok _ _ h2, law2.decok _ _ h3, law9.decok _ _ h4, law9.decok _ _ h5, law9.decok _ _ h6, Bool.and_self], fun x a h => by obtain ⟨x0, x1, x2, x3, x4, x5, x6, rfl, h0, h1, h2, h3, h4, h5, h6⟩ := decx47 (show dec47 x = some a from h); rfl, fun x => by show ((cel23 x.Stamp ++ (cel3 x.Kind ++ (cel2 x.Node ++ (cel2 x.Parent ++ (cel9 x.Name ++ (cel9 x.Key ++ (cel9 x.Value ++ [])))))))).all AV.one = true; simp only [List.all_append, List.all_nil, show (cel23 x.Stamp).all AV.one = true from law23.one _, show (cel3 x.Kind).all AV.one = true from law3.one _, show (cel2 x.Node).all AV.one = true from law2.one _, show (cel2 x.Parent).all AV.one = true from law2.one _, show (cel9 x.Name).all AV.one = true from law9.one _, show (cel9 x.Key).all AV.one = true from law9.one _, show (cel9 x.Value).all AV.one = true from law9.one _, Bool.and_self], fun x => noids_app (law23.noid x.Stamp) (noids_app (law3.noid x.Kind) (noids_app (law2.noid x.Node) (noids_app (law2.noid x.Parent) (noids_app (law9.noid x.Name) (noids_app (law9.noid x.Key) (noids_app (law9.noid x.Value) (trivial))))))), fun ks h a b => by have := eqCells_append (law23.kd _ rfl a.Stamp b.Stamp) (eqCells_append (law3.kd _ rfl a.Kind b.Kind) (eqCells_append (law2.kd _ rfl a.Node b.Node) (eqCells_append (law2.kd _ rfl a.Parent b.Parent) (eqCells_append (law9.kd _ rfl a.Name b.Name) (eqCells_append (law9.kd _ rfl a.Key b.Key) (eqCells_append (law9.kd _ rfl a.Value b.Value) ((show eqCells [] [] [] = some true from rfl)))))))); cases h; exact this, (fun l s h => nomatch h), (fun s l h => nomatch h)⟩
theorem decx48 {x : TV τ} {a : GOp} (h : dec48 x = some a) : ∃ x0 x1 x2 x3 x4 x5 x6, x = .agg [x0, x1, x2, x3, x4, x5, x6] ∧ dec23 x0 = some a.Stamp ∧ dec3 x1 = some a.Kind ∧ dec2 x2 = some a.Node ∧ dec2 x3 = some a.Parent ∧ dec9 x4 = some a.Name ∧ dec9 x5 = some a.Key ∧ dec9 x6 = some a.Value := by
  unfold dec48 at h
  split at h
  · rename_i x0 x1 x2 x3 x4 x5 x6
    split at h
    · rename_i a0 h0
      split at h
      · rename_i a1 h1
        split at h
        · rename_i a2 h2
          split at h
          · rename_i a3 h3
            split at h
            · rename_i a4 h4
              split at h
              · rename_i a5 h5
                split at h
                · rename_i a6 h6
                  cases h
                  exact ⟨_, _, _, _, _, _, _, rfl, h0, h1, h2, h3, h4, h5, h6⟩
                · cases h
              · cases h
            · cases h
          · cases h
        · cases h
      · cases h
    · cases h
  · cases h
theorem law48 : CodAt C 48 := ⟨fun x => by show ((enc23 x.Stamp).cells C ++ ((enc3 x.Kind).cells C ++ ((enc2 x.Node).cells C ++ ((enc2 x.Parent).cells C ++ ((enc9 x.Name).cells C ++ ((enc9 x.Key).cells C ++ ((enc9 x.Value).cells C ++ []))))))) = cel48 x; unfold cel48; exact congr (congrArg (· ++ ·) (law23.cel x.Stamp)) (congr (congrArg (· ++ ·) (law3.cel x.Kind)) (congr (congrArg (· ++ ·) (law2.cel x.Node)) (congr (congrArg (· ++ ·) (law2.cel x.Parent)) (congr (congrArg (· ++ ·) (law9.cel x.Name)) (congr (congrArg (· ++ ·) (law9.cel x.Key)) (congr (congrArg (· ++ ·) (law9.cel x.Value)) (rfl))))))), fun x => by show ((cel23 x.Stamp ++ (cel3 x.Kind ++ (cel2 x.Node ++ (cel2 x.Parent ++ (cel9 x.Name ++ (cel9 x.Key ++ (cel9 x.Value ++ [])))))))).length = 8; rw [List.length_append, List.length_append, List.length_append, List.length_append, List.length_append, List.length_append, List.length_append]; have e0 : (cel23 x.Stamp).length = 2 := law23.len x.Stamp; have e1 : (cel3 x.Kind).length = 1 := law3.len x.Kind; have e2 : (cel2 x.Node).length = 1 := law2.len x.Node; have e3 : (cel2 x.Parent).length = 1 := law2.len x.Parent; have e4 : (cel9 x.Name).length = 1 := law9.len x.Name; have e5 : (cel9 x.Key).length = 1 := law9.len x.Key; have e6 : (cel9 x.Value).length = 1 := law9.len x.Value; simp only [e0, e1, e2, e3, e4, e5, e6, List.length_nil], fun x a h => by obtain ⟨x0, x1, x2, x3, x4, x5, x6, rfl, h0, h1, h2, h3, h4, h5, h6⟩ := decx48 (show dec48 x = some a from h); exact CW.append (law23.dec _ _ h0) (CW.append (law3.dec _ _ h1) (CW.append (law2.dec _ _ h2) (CW.append (law2.dec _ _ h3) (CW.append (law9.dec _ _ h4) (CW.append (law9.dec _ _ h5) (CW.append (law9.dec _ _ h6) (CW.refl []))))))), fun x => by show (((enc23 x.Stamp).ok && ((enc3 x.Kind).ok && ((enc2 x.Node).ok && ((enc2 x.Parent).ok && ((enc9 x.Name).ok && ((enc9 x.Key).ok && ((enc9 x.Value).ok && true)))))))) = true; simp only [show (enc23 x.Stamp).ok = true from law23.ok _, show (enc3 x.Kind).ok = true from law3.ok _, show (enc2 x.Node).ok = true from law2.ok _, show (enc2 x.Parent).ok = true from law2.ok _, show (enc9 x.Name).ok = true from law9.ok _, show (enc9 x.Key).ok = true from law9.ok _, show (enc9 x.Value).ok = true from law9.ok _, Bool.and_self], fun x a h => by obtain ⟨x0, x1, x2, x3, x4, x5, x6, rfl, h0, h1, h2, h3, h4, h5, h6⟩ := decx48 (show dec48 x = some a from h); show ((x0.ok && (x1.ok && (x2.ok && (x3.ok && (x4.ok && (x5.ok && (x6.ok && true)))))))) = true; simp only [law23.decok _ _ h0, law3.decok _ _ h1, law2.decok _ _ h2, law2.decok _ _ h3, law9.decok _ _ h4, law9.decok _ _ h5, law9.decok _ _ h6, Bool.and_self], fun x a h => by obtain ⟨x0, x1, x2, x3, x4, x5, x6, rfl, h0, h1, h2, h3, h4, h5, h6⟩ := decx48 (show dec48 x = some a from h); rfl, fun x => by show ((cel23 x.Stamp ++ (cel3 x.Kind ++ (cel2 x.Node ++ (cel2 x.Parent ++ (cel9 x.Name ++ (cel9 x.Key ++ (cel9 x.Value ++ [])))))))).all AV.one = true; simp only [List.all_append, List.all_nil, show (cel23 x.Stamp).all AV.one = true from law23.one _, show (cel3 x.Kind).all AV.one = true from law3.one _, show (cel2 x.Node).all AV.one = true from law2.one _, show (cel2 x.Parent).all AV.one = true from law2.one _, show (cel9 x.Name).all AV.one = true from law9.one _, show (cel9 x.Key).all AV.one = true from law9.one _, show (cel9 x.Value).all AV.one = true from law9.one _, Bool.and_self], fun x => noids_app (law23.noid x.Stamp) (noids_app (law3.noid x.Kind) (noids_app (law2.noid x.Node) (noids_app (law2.noid x.Parent) (noids_app (law9.noid x.Name) (noids_app (law9.noid x.Key) (noids_app (law9.noid x.Value) (trivial))))))), fun ks h a b => by have := eqCells_append (law23.kd _ rfl a.Stamp b.Stamp) (eqCells_append (law3.kd _ rfl a.Kind b.Kind) (eqCells_append (law2.kd _ rfl a.Node b.Node) (eqCells_append (law2.kd _ rfl a.Parent b.Parent) (eqCells_append (law9.kd _ rfl a.Name b.Name) (eqCells_append (law9.kd _ rfl a.Key b.Key) (eqCells_append (law9.kd _ rfl a.Value b.Value) ((show eqCells [] [] [] = some true from rfl)))))))); cases h; exact this, (fun l s h => nomatch h), (fun s l h => nomatch h)⟩
theorem law49 : CodAt C 49 := ⟨fun x => rfl, fun x => rfl, fun x a h => by rw [dInt_x (show dInt .i64 x = some a from h)]; exact .refl _, fun x => rfl, fun x a h => by rw [dInt_x (show dInt .i64 x = some a from h)]; rfl, fun x a h => by rw [dInt_x (show dInt .i64 x = some a from h)]; rfl, fun a => rfl, fun a => noids_one (NoId.v _), fun ks h a b => by cases h; simp [eqCells, scal, C, celT, cel49, beqT, beq49], (fun l s h => nomatch h), (fun s l h => nomatch h)⟩
theorem law59 : CodAt C 59 := ⟨fun x => rfl, fun x => rfl, fun x a h => (dSl_cw (C := C) (show dSl 3 x = some a from h)).1, fun x => rfl, fun x a h => (dSl_cw (C := C) (show dSl 3 x = some a from h)).2.1, fun x a h => (dSl_cw (C := C) (show dSl 3 x = some a from h)).2.2, fun a => rfl, fun a => noids_one (NoId.asl fun cs hc => by obtain ⟨y, _, rfl⟩ := List.mem_map.1 hc; exact law3.noid y), (fun ks h => nomatch h), (fun l s h => nomatch h), (fun s l h => nomatch h)⟩
theorem law65 : CodAt C 65 := ⟨fun x => rfl, fun x => rfl, fun x a h => by rw [dInt_x (show dInt .u64 x = some a from h)]; exact .refl _, fun x => rfl, fun x a h => by rw [dInt_x (show dInt .u64 x = some a from h)]; rfl, fun x a h => by rw [dInt_x (show dInt .u64 x = some a from h)]; rfl, fun a => rfl, fun a => noids_one (NoId.v _), fun ks h a b => by cases h; simp [eqCells, scal, C, celT, cel65, beqT, beq65], (fun l s h => nomatch h), (fun s l h => nomatch h)⟩
theorem law66 : CodAt C 66 := ⟨fun x => rfl, fun x => rfl, fun x a h => by rw [dInt_x (show dInt .u32 x = some a from h)]; exact .refl _, fun x => rfl, fun x a h => by rw [dInt_x (show dInt .u32 x = some a from h)]; rfl, fun x a h => by rw [dInt_x (show dInt .u32 x = some a from h)]; rfl, fun a => rfl, fun a => noids_one (NoId.v _), fun ks h a b => by cases h; simp [eqCells, scal, C, celT, cel66, beqT, beq66], (fun l s h => nomatch h), (fun s l h => nomatch h)⟩
theorem lawX {t : Nat} (h : celT t = fun _ => []) (h1 : encT t = fun _ => .agg []) (h2 : decT t = fun _ => none) (h3 : szT t = 0) (h4 : kdT t = none) (h5 : b2sT t = fun _ => none) (h6 : s2bT t = fun _ => none) : CodAt C t := by
  refine ⟨fun x => ?_, fun x => ?_, fun x a hx => ?_, fun x => ?_, fun x a hx => ?_, fun x a hx => ?_, fun a => ?_, fun a => ?_, fun ks hk => ?_, fun l s hl => ?_, fun s l hl => ?_⟩
  · show (encT t x).cells C = celT t x; rw [h, h1]; rfl
  · show (celT t x).length = szT t; rw [h, h3]; rfl
  · have e : decT t x = some a := hx; rw [h2] at e; cases e
  · show (encT t x).ok = true; rw [h1]; rfl
  · have e : decT t x = some a := hx; rw [h2] at e; cases e
  · have e : decT t x = some a := hx; rw [h2] at e; cases e
  · show (celT t a).all AV.one = true; rw [h]; rfl
  · show NoIds (celT t a); rw [h]; trivial
  · have e : kdT t = some ks := hk; rw [h4] at e; cases e
  · have e : b2sT t l = some s := hl; rw [h5] at e; cases e
  · have e : s2bT t s = some l := hl; rw [h6] at e; cases e
theorem lawOther : ∀ t : Nat, t ≠ 2 → t ≠ 3 → t ≠ 4 → t ≠ 5 → t ≠ 9 → t ≠ 12 → t ≠ 21 → t ≠ 22 → t ≠ 23 → t ≠ 29 → t ≠ 30 → t ≠ 31 → t ≠ 43 → t ≠ 47 → t ≠ 48 → t ≠ 49 → t ≠ 59 → t ≠ 65 → t ≠ 66 → CodAt C t
  | t, h2, h3, h4, h5, h9, h12, h21, h22, h23, h29, h30, h31, h43, h47, h48, h49, h59, h65, h66 => by
    apply lawX <;> first
      | (unfold celT; split <;> first | rfl | contradiction | (exfalso; omega))
      | (unfold encT; split <;> first | rfl | contradiction | (exfalso; omega))
      | (unfold decT; split <;> first | rfl | contradiction | (exfalso; omega))
      | (unfold szT; split <;> first | rfl | contradiction | (exfalso; omega))
      | (unfold kdT; split <;> first | rfl | contradiction | (exfalso; omega))
      | (unfold b2sT; split <;> first | rfl | contradiction | (exfalso; omega))
      | (unfold s2bT; split <;> first | rfl | contradiction | (exfalso; omega))
theorem cOk : C.Ok := Cod.Ok.of fun t => by
  by_cases h2 : t = 2
  · subst h2; exact law2
  by_cases h3 : t = 3
  · subst h3; exact law3
  by_cases h4 : t = 4
  · subst h4; exact law4
  by_cases h5 : t = 5
  · subst h5; exact law5
  by_cases h9 : t = 9
  · subst h9; exact law9
  by_cases h12 : t = 12
  · subst h12; exact law12
  by_cases h21 : t = 21
  · subst h21; exact law21
  by_cases h22 : t = 22
  · subst h22; exact law22
  by_cases h23 : t = 23
  · subst h23; exact law23
  by_cases h29 : t = 29
  · subst h29; exact law29
  by_cases h30 : t = 30
  · subst h30; exact law30
  by_cases h31 : t = 31
  · subst h31; exact law31
  by_cases h43 : t = 43
  · subst h43; exact law43
  by_cases h47 : t = 47
  · subst h47; exact law47
  by_cases h48 : t = 48
  · subst h48; exact law48
  by_cases h49 : t = 49
  · subst h49; exact law49
  by_cases h59 : t = 59
  · subst h59; exact law59
  by_cases h65 : t = 65
  · subst h65; exact law65
  by_cases h66 : t = 66
  · subst h66; exact law66
  exact lawOther t h2 h3 h4 h5 h9 h12 h21 h22 h23 h29 h30 h31 h43 h47 h48 h49 h59 h65 h66
def zeroT : Nat → Option (TV τ)
  | 1 => some (.nil .func)
  | 2 => some (.int .i64 0)
  | 3 => some (.int .i64 0)
  | 4 => some (.bool false)
  | 5 => some (.int .u8 0)
  | 9 => some (.str [])
  | 12 => some (.int .u64 0)
  | 17 => some (.nil .ptr)
  | 21 => some (.int .i32 0)
  | 22 => some (.agg [(.int .i64 0), (.int .i64 0)])
  | 23 => some (.agg [(.int .i64 0), (.int .i64 0)])
  | 25 => some (.nil .func)
  | 26 => some (.nil .func)
  | 27 => some (.nil .func)
  | 28 => some (.nil .func)
  | 29 => some (.nil .slice)
  | 30 => some (.arr 2 8 (Vector.replicate 8 (default : Int)))
  | 31 => some (.arr 2 8 (Vector.replicate 8 (default : Int)))
  | 32 => some (.nil .func)
  | 33 => some (.nil .func)
  | 34 => some (.nil .func)
  | 35 => some (.nil .func)
  | 36 => some (.nil .func)
  | 37 => some (.nil .func)
  | 38 => some (.nil .func)
  | 39 => some (.nil .func)
  | 40 => some (.nil .func)
  | 41 => some (.nil .func)
  | 42 => some (.nil .func)
  | 43 => some (.nil .slice)
  | 44 => some (.nil .func)
  | 45 => some (.nil .func)
  | 46 => some (.nil .func)
  | 47 => some (.agg [(.agg [(.int .i64 0), (.int .i64 0)]), (.int .i64 0), (.int .i64 0), (.int .i64 0), (.str []), (.str []), (.str [])])
  | 48 => some (.agg [(.agg [(.int .i64 0), (.int .i64 0)]), (.int .i64 0), (.int .i64 0), (.int .i64 0), (.str []), (.str []), (.str [])])
  | 49 => some (.int .i64 0)
  | 50 => some (.nil .func)
  | 51 => some (.nil .func)
  | 52 => some (.nil .func)
  | 53 => some (.nil .func)
  | 54 => some (.nil .func)
  | 55 => some (.nil .func)
  | 56 => some (.nil .func)
  | 57 => some (.nil .func)
  | 58 => some (.nil .func)
  | 59 => some (.nil .slice)
  | 60 => some (.nil .func)
  | 61 => some (.nil .func)
  | 62 => some (.nil .func)
  | 63 => some (.nil .func)
  | 64 => some (.nil .func)
  | 65 => some (.int .u64 0)
  | 66 => some (.int .u32 0)
  | 68 => some (.nil .func)
  | 69 => some (.nil .func)
  | 75 => some (.nil .func)
  | 79 => some (.nil .ptr)
  | _ => none
theorem zok1 : ∃ i, E.ty 1 = some i ∧ (.nil .func : TV τ).ok = true ∧ CW i.zero ((.nil .func : TV τ).cells C) ∧ (.nil .func : TV τ).isAgg = i.agg := ⟨ti1, rfl, rfl, CW.of_eq (by kernel_rfl), rfl⟩
theorem zok2 : ∃ i, E.ty 2 = some i ∧ (.int .i64 0 : TV τ).ok = true ∧ CW i.zero ((.int .i64 0 : TV τ).cells C) ∧ (.int .i64 0 : TV τ).isAgg = i.agg := ⟨ti2, rfl, rfl, CW.of_eq (by kernel_rfl), rfl⟩
theorem zok3 : ∃ i, E.ty 3 = some i ∧ (.int .i64 0 : TV τ).ok = true ∧ CW i.zero ((.int .i64 0 : TV τ).cells C) ∧ (.int .i64 0 : TV τ).isAgg = i.agg := ⟨ti3, rfl, rfl, CW.of_eq (by kernel_rfl), rfl⟩
theorem zok4 : ∃ i, E.ty 4 = some i ∧ (.bool false : TV τ).ok = true ∧ CW i.zero ((.bool false : TV τ).cells C) ∧ (.bool false : TV τ).isAgg = i.agg := ⟨ti4, rfl, rfl, CW.of_eq (by kernel_rfl), rfl⟩
theorem zok5 : ∃ i, E.ty 5 = some i ∧ (.int .u8 0 : TV τ).ok = true ∧ CW i.zero ((.int .u8 0 : TV τ).cells C) ∧ (.int .u8 0 : TV τ).isAgg = i.agg := ⟨ti5, rfl, rfl, CW.of_eq (by kernel_rfl), rfl⟩
theorem zok9 : ∃ i, E.ty 9 = some i ∧ (.str [] : TV τ).ok = true ∧ CW i.zero ((.str [] : TV τ).cells C) ∧ (.str [] : TV τ).isAgg = i.agg := ⟨ti9, rfl, rfl, CW.of_eq (by kernel_rfl), rfl⟩
theorem zok12 : ∃ i, E.ty 12 = some i ∧ (.int .u64 0 : TV τ).ok = true ∧ CW i.zero ((.int .u64 0 : TV τ).cells C) ∧ (.int .u64 0 : TV τ).isAgg = i.agg := ⟨ti12, rfl, rfl, CW.of_eq (by kernel_rfl), rfl⟩
theorem zok17 : ∃ i, E.ty 17 = some i ∧ (.nil .ptr : TV τ).ok = true ∧ CW i.zero ((.nil .ptr : TV τ).cells C) ∧ (.nil .ptr : TV τ).isAgg = i.agg := ⟨ti17, rfl, rfl, CW.of_eq (by kernel_rfl), rfl⟩
theorem zok21 : ∃ i, E.ty 21 = some i ∧ (.int .i32 0 : TV τ).ok = true ∧ CW i.zero ((.int .i32 0 : TV τ).cells C) ∧ (.int .i32 0 : TV τ).isAgg = i.agg := ⟨ti21, rfl, rfl, CW.of_eq (by kernel_rfl), rfl⟩
theorem zok22 : ∃ i, E.ty 22 = some i ∧ (.agg [(.int .i64 0), (.int .i64 0)] : TV τ).ok = true ∧ CW i.zero ((.agg [(.int .i64 0), (.int .i64 0)] : TV τ).cells C) ∧ (.agg [(.int .i64 0), (.int .i64 0)] : TV τ).isAgg = i.agg := ⟨ti22, rfl, rfl, CW.of_eq (by kernel_rfl), rfl⟩
theorem zok23 : ∃ i, E.ty 23 = some i ∧ (.agg [(.int .i64 0), (.int .i64 0)] : TV τ).ok = true ∧ CW i.zero ((.agg [(.int .i64 0), (.int .i64 0)] : TV τ).cells C) ∧ (.agg [(.int .i64 0), (.int .i64 0)] : TV τ).isAgg = i.agg := ⟨ti23, rfl, rfl, CW.of_eq (by kernel_rfl), rfl⟩
theorem zok25 : ∃ i, E.ty 25 = some i ∧ (.nil .func : TV τ).ok = true ∧ CW i.zero ((.nil .func : TV τ).cells C) ∧ (.nil .func : TV τ).isAgg = i.agg := ⟨ti25, rfl, rfl, CW.of_eq (by kernel_rfl), rfl⟩
theorem zok26 : ∃ i, E.ty 26 = some i ∧ (.nil .func : TV τ).ok = true ∧ CW i.zero ((.nil .func : TV τ).cells C) ∧ (.nil .func : TV τ).isAgg = i.agg := ⟨ti26, rfl, rfl, CW.of_eq (by kernel_rfl), rfl⟩
theorem zok27 : ∃ i, E.ty 27 = some i ∧ (.nil .func : TV τ).ok = true ∧ CW i.zero ((.nil .func : TV τ).cells C) ∧ (.nil .func : TV τ).isAgg = i.agg := ⟨ti27, rfl, rfl, CW.of_eq (by kernel_rfl), rfl⟩
theorem zok28 : ∃ i, E.ty 28 = some i ∧ (.nil .func : TV τ).ok = true ∧ CW i.zero ((.nil .func : TV τ).cells C) ∧ (.nil .func : TV τ).isAgg = i.agg := ⟨ti28, rfl, rfl, CW.of_eq (by kernel_rfl), rfl⟩
theorem zok29 : ∃ i, E.ty 29 = some i ∧ (.nil .slice : TV τ).ok = true ∧ CW i.zero ((.nil .slice : TV τ).cells C) ∧ (.nil .slice : TV τ).isAgg = i.agg := ⟨ti29, rfl, rfl, CW.of_eq (by kernel_rfl), rfl⟩
theorem zok30 : ∃ i, E.ty 30 = some i ∧ (.arr 2 8 (Vector.replicate 8 (default : Int)) : TV τ).ok = true ∧ CW i.zero ((.arr 2 8 (Vector.replicate 8 (default : Int)) : TV τ).cells C) ∧ (.arr 2 8 (Vector.replicate 8 (default : Int)) : TV τ).isAgg = i.agg := ⟨ti30, rfl, rfl, CW.of_eq (by kernel_rfl), rfl⟩
theorem zok31 : ∃ i, E.ty 31 = some i ∧ (.arr 2 8 (Vector.replicate 8 (default : Int)) : TV τ).ok = true ∧ CW i.zero ((.arr 2 8 (Vector.replicate 8 (default : Int)) : TV τ).cells C) ∧ (.arr 2 8 (Vector.replicate 8 (default : Int)) : TV τ).isAgg = i.agg := ⟨ti31, rfl, rfl, CW.of_eq (by kernel_rfl), rfl⟩
theorem zok32 : ∃ i, E.ty 32 = some i ∧ (.nil .func : TV τ).ok = true ∧ CW i.zero ((.nil .func : TV τ).cells C) ∧ (.nil .func : TV τ).isAgg = i.agg := ⟨ti32, rfl, rfl, CW.of_eq (by kernel_rfl), rfl⟩
theorem zok33 : ∃ i, E.ty 33 = some i ∧ (.nil .func : TV τ).ok = true ∧ CW i.zero ((.nil .func : TV τ).cells C) ∧ (.nil .func : TV τ).isAgg = i.agg := ⟨ti33, rfl, rfl, CW.of_eq (by kernel_rfl), rfl⟩
theorem zok34 : ∃ i, E.ty 34 = some i ∧ (.nil .func : TV τ).ok = true ∧ CW i.zero ((.nil .func : TV τ).cells C) ∧ (.nil .func : TV τ).isAgg = i.agg := ⟨ti34, rfl, rfl, CW.of_eq (by kernel_rfl), rfl⟩
theorem zok35 : ∃ i, E.ty 35 = some i ∧ (.nil .func : TV τ).ok = true ∧ CW i.zero ((.nil .func : TV τ).cells C) ∧ (.nil .func : TV τ).isAgg = i.agg := ⟨ti35, rfl, rfl, CW.of_eq (by kernel_rfl), rfl⟩
theorem zok36 : ∃ i, E.ty 36 = some i ∧ (.nil .func : TV τ).ok = true ∧ CW i.zero ((.nil .func : TV τ).cells C) ∧ (.nil .func : TV τ).isAgg = i.agg := ⟨ti36, rfl, rfl, CW.of_eq (by kernel_rfl), rfl⟩
theorem zok37 : ∃ i, E.ty 37 = some i ∧ (.nil .func : TV τ).ok = true ∧ CW i.zero ((.nil .func : TV τ).cells C) ∧ (.nil .func : TV τ).isAgg = i.agg := ⟨ti37, rfl, rfl, CW.of_eq (by kernel_rfl), rfl⟩
theorem zok38 : ∃ i, E.ty 38 = some i ∧ (.nil .func : TV τ).ok = true ∧ CW i.zero ((.nil .func : TV τ).cells C) ∧ (.nil .func : TV τ).isAgg = i.agg := ⟨ti38, rfl, rfl, CW.of_eq (by kernel_rfl), rfl⟩
theorem zok39 : ∃ i, E.ty 39 = some i ∧ (.nil .func : TV τ).ok = true ∧ CW i.zero ((.nil .func : TV τ).cells C) ∧ (.nil .func : TV τ).isAgg = i.agg := ⟨ti39, rfl, rfl, CW.of_eq (by kernel_rfl), rfl⟩
theorem zok40 : ∃ i, E.ty 40 = some i ∧ (.nil .func : TV τ).ok = true ∧ CW i.zero ((.nil .func : TV τ).cells C) ∧ (.nil .func : TV τ).isAgg = i.agg := ⟨ti40, rfl, rfl, CW.of_eq (by kernel_rfl), rfl⟩
theorem zok41 : ∃ i, E.ty 41 = some i ∧ (.nil .func : TV τ).ok = true ∧ CW i.zero ((.nil .func : TV τ).cells C) ∧ (.nil .func : TV τ).isAgg = i.agg := ⟨ti41, rfl, rfl, CW.of_eq (by kernel_rfl), rfl⟩
theorem zok42 : ∃ i, E.ty 42 = some i ∧ (.nil .func : TV τ).ok = true ∧ CW i.zero ((.nil .func : TV τ).cells C) ∧ (.nil .func : TV τ).isAgg = i.agg := ⟨ti42, rfl, rfl, CW.of_eq (by kernel_rfl), rfl⟩
theorem zok43 : ∃ i, E.ty 43 = some i ∧ (.nil .slice : TV τ).ok = true ∧ CW i.zero ((.nil .slice : TV τ).cells C) ∧ (.nil .slice : TV τ).isAgg = i.agg := ⟨ti43, rfl, rfl, CW.of_eq (by kernel_rfl), rfl⟩
theorem zok44 : ∃ i, E.ty 44 = some i ∧ (.nil .func : TV τ).ok = true ∧ CW i.zero ((.nil .func : TV τ).cells C) ∧ (.nil .func : TV τ).isAgg = i.agg := ⟨ti44, rfl, rfl, CW.of_eq (by kernel_rfl), rfl⟩
theorem zok45 : ∃ i, E.ty 45 = some i ∧ (.nil .func : TV τ).ok = true ∧ CW i.zero ((.nil .func : TV τ).cells C) ∧ (.nil .func : TV τ).isAgg = i.agg := ⟨ti45, rfl, rfl, CW.of_eq (by kernel_rfl), rfl⟩
theorem zok46 : ∃ i, E.ty 46 = some i ∧ (.nil .func : TV τ).ok = true ∧ CW i.zero ((.nil .func : TV τ).cells C) ∧ (.nil .func : TV τ).isAgg = i.agg := ⟨ti46, rfl, rfl, CW.of_eq (by kernel_rfl), rfl⟩
theorem zok47 : ∃ i, E.ty 47 = some i ∧ (.agg [(.agg [(.int .i64 0), (.int .i64 0)]), (.int .i64 0), (.int .i64 0), (.int .i64 0), (.str []), (.str []), (.str [])] : TV τ).ok = true ∧ CW i.zero ((.agg [(.agg [(.int .i64 0), (.int .i64 0)]), (.int .i64 0), (.int .i64 0), (.int .i64 0), (.str []), (.str []), (.str [])] : TV τ).cells C) ∧ (.agg [(.agg [(.int .i64 0), (.int .i64 0)]), (.int .i64 0), (.int .i64 0), (.int .i64 0), (.str []), (.str []), (.str [])] : TV τ).isAgg = i.agg := ⟨ti47, rfl, rfl, CW.of_eq (by kernel_rfl), rfl⟩
theorem zok48 : ∃ i, E.ty 48 = some i ∧ (.agg [(.agg [(.int .i64 0), (.int .i64 0)]), (.int .i64 0), (.int .i64 0), (.int .i64 0), (.str []), (.str []), (.str [])] : TV τ).ok = true ∧ CW i.zero ((.agg [(.agg [(.int .i64 0), (.int .i64 0)]), (.int .i64 0), (.int .i64 0), (.int .i64 0), (.str []), (.str []), (.str [])] : TV τ).cells C) ∧ (.agg [(.agg [(.int .i64 0), (.int .i64 0)]), (.int .i64 0), (.int .i64 0), (.int .i64 0), (.str []), (.str []), (.str [])] : TV τ).isAgg = i.agg := ⟨ti48, rfl, rfl, CW.of_eq (by kernel_rfl), rfl⟩
theorem zok49 : ∃ i, E.ty 49 = some i ∧ (.int .i64 0 : TV τ).ok = true ∧ CW i.zero ((.int .i64 0 : TV τ).cells C) ∧ (.int .i64 0 : TV τ).isAgg = i.agg := ⟨ti49, rfl, rfl, CW.of_eq (by kernel_rfl), rfl⟩
theorem zok50 : ∃ i, E.ty 50 = some i ∧ (.nil .func : TV τ).ok = true ∧ CW i.zero ((.nil .func : TV τ).cells C) ∧ (.nil .func : TV τ).isAgg = i.agg := ⟨ti50, rfl, rfl, CW.of_eq (by kernel_rfl), rfl⟩
theorem zok51 : ∃ i, E.ty 51 = some i ∧ (.nil .func : TV τ).ok = true ∧ CW i.zero ((.nil .func : TV τ).cells C) ∧ (.nil .func : TV τ).isAgg = i.agg := ⟨ti51, rfl, rfl, CW.of_eq (by kernel_rfl), rfl⟩
theorem zok52 : ∃ i, E.ty 52 = some i ∧ (.nil .func : TV τ).ok = true ∧ CW i.zero ((.nil .func : TV τ).cells C) ∧ (.nil .func : TV τ).isAgg = i.agg := ⟨ti52, rfl, rfl, CW.of_eq (by kernel_rfl), rfl⟩
theorem zok53 : ∃ i, E.ty 53 = some i ∧ (.nil .func : TV τ).ok = true ∧ CW i.zero ((.nil .func : TV τ).cells C) ∧ (.nil .func : TV τ).isAgg = i.agg := ⟨ti53, rfl, rfl, CW.of_eq (by kernel_rfl), rfl⟩
theorem zok54 : ∃ i, E.ty 54 = some i ∧ (.nil .func : TV τ).ok = true ∧ CW i.zero ((.nil .func : TV τ).cells C) ∧ (.nil .func : TV τ).isAgg = i.agg := ⟨ti54, rfl, rfl, CW.of_eq (by kernel_rfl), rfl⟩
theorem zok55 : ∃ i, E.ty 55 = some i ∧ (.nil .func : TV τ).ok = true ∧ CW i.zero ((.nil .func : TV τ).cells C) ∧ (.nil .func : TV τ).isAgg = i.agg := ⟨ti55, rfl, rfl, CW.of_eq (by kernel_rfl), rfl⟩
theorem zok56 : ∃ i, E.ty 56 = some i ∧ (.nil .func : TV τ).ok = true ∧ CW i.zero ((.nil .func : TV τ).cells C) ∧ (.nil .func : TV τ).isAgg = i.agg := ⟨ti56, rfl, rfl, CW.of_eq (by kernel_rfl), rfl⟩
theorem zok57 : ∃ i, E.ty 57 = some i ∧ (.nil .func : TV τ).ok = true ∧ CW i.zero ((.nil .func : TV τ).cells C) ∧ (.nil .func : TV τ).isAgg = i.agg := ⟨ti57, rfl, rfl, CW.of_eq (by kernel_rfl), rfl⟩
theorem zok58 : ∃ i, E.ty 58 = some i ∧ (.nil .func : TV τ).ok = true ∧ CW i.zero ((.nil .func : TV τ).cells C) ∧ (.nil .func : TV τ).isAgg = i.agg := ⟨ti58, rfl, rfl, CW.of_eq (by kernel_rfl), rfl⟩
theorem zok59 : ∃ i, E.ty 59 = some i ∧ (.nil .slice : TV τ).ok = true ∧ CW i.zero ((.nil .slice : TV τ).cells C) ∧ (.nil .slice : TV τ).isAgg = i.agg := ⟨ti59, rfl, rfl, CW.of_eq (by kernel_rfl), rfl⟩
theorem zok60 : ∃ i, E.ty 60 = some i ∧ (.nil .func : TV τ).ok = true ∧ CW i.zero ((.nil .func : TV τ).cells C) ∧ (.nil .func : TV τ).isAgg = i.agg := ⟨ti60, rfl, rfl, CW.of_eq (by kernel_rfl), rfl⟩
theorem zok61 : ∃ i, E.ty 61 = some i ∧ (.nil .func : TV τ).ok = true ∧ CW i.zero ((.nil .func : TV τ).cells C) ∧ (.nil .func : TV τ).isAgg = i.agg := ⟨ti61, rfl, rfl, CW.of_eq (by kernel_rfl), rfl⟩
theorem zok62 : ∃ i, E.ty 62 = some i ∧ (.nil .func : TV τ).ok = true ∧ CW i.zero ((.nil .func : TV τ).cells C) ∧ (.nil .func : TV τ).isAgg = i.agg := ⟨ti62, rfl, rfl, CW.of_eq (by kernel_rfl), rfl⟩
theorem zok63 : ∃ i, E.ty 63 = some i ∧ (.nil .func : TV τ).ok = true ∧ CW i.zero ((.nil .func : TV τ).cells C) ∧ (.nil .func : TV τ).isAgg = i.agg := ⟨ti63, rfl, rfl, CW.of_eq (by kernel_rfl), rfl⟩
theorem zok64 : ∃ i, E.ty 64 = some i ∧ (.nil .func : TV τ).ok = true ∧ CW i.zero ((.nil .func : TV τ).cells C) ∧ (.nil .func : TV τ).isAgg = i.agg := ⟨ti64, rfl, rfl, CW.of_eq (by kernel_rfl), rfl⟩
theorem zok65 : ∃ i, E.ty 65 = some i ∧ (.int .u64 0 : TV τ).ok = true ∧ CW i.zero ((.int .u64 0 : TV τ).cells C) ∧ (.int .u64 0 : TV τ).isAgg = i.agg := ⟨ti65, rfl, rfl, CW.of_eq (by kernel_rfl), rfl⟩
theorem zok66 : ∃ i, E.ty 66 = some i ∧ (.int .u32 0 : TV τ).ok = true ∧ CW i.zero ((.int .u32 0 : TV τ).cells C) ∧ (.int .u32 0 : TV τ).isAgg = i.agg := ⟨ti66, rfl, rfl, CW.of_eq (by kernel_rfl), rfl⟩
theorem zok68 : ∃ i, E.ty 68 = some i ∧ (.nil .func : TV τ).ok = true ∧ CW i.zero ((.nil .func : TV τ).cells C) ∧ (.nil .func : TV τ).isAgg = i.agg := ⟨ti68, rfl, rfl, CW.of_eq (by kernel_rfl), rfl⟩
theorem zok69 : ∃ i, E.ty 69 = some i ∧ (.nil .func : TV τ).ok = true ∧ CW i.zero ((.nil .func : TV τ).cells C) ∧ (.nil .func : TV τ).isAgg = i.agg := ⟨ti69, rfl, rfl, CW.of_eq (by kernel_rfl), rfl⟩
theorem zok75 : ∃ i, E.ty 75 = some i ∧ (.nil .func : TV τ).ok = true ∧ CW i.zero ((.nil .func : TV τ).cells C) ∧ (.nil .func : TV τ).isAgg = i.agg := ⟨ti75, rfl, rfl, CW.of_eq (by kernel_rfl), rfl⟩
theorem zok79 : ∃ i, E.ty 79 = some i ∧ (.nil .ptr : TV τ).ok = true ∧ CW i.zero ((.nil .ptr : TV τ).cells C) ∧ (.nil .ptr : TV τ).isAgg = i.agg := ⟨ti79, rfl, rfl, CW.of_eq (by kernel_rfl), rfl⟩
noncomputable def D0 : TEnv τ := ⟨E, C, zeroT⟩
theorem zeroOk : ∀ t x, zeroT t = some x → ∃ i, E.ty t = some i ∧ x.ok = true ∧ CW i.zero (x.cells C) ∧ x.isAgg = i.agg := by
  intro t x h
  unfold zeroT at h
  split at h <;> first
    | (cases h; first | exact zok1 | exact zok2 | exact zok3 | exact zok4 | exact zok5 | exact zok9 | exact zok12 | exact zok17 | exact zok21 | exact zok22 | exact zok23 | exact zok25 | exact zok26 | exact zok27 | exact zok28 | exact zok29 | exact zok30 | exact zok31 | exact zok32 | exact zok33 | exact zok34 | exact zok35 | exact zok36 | exact zok37 | exact zok38 | exact zok39 | exact zok40 | exact zok41 | exact zok42 | exact zok43 | exact zok44 | exact zok45 | exact zok46 | exact zok47 | exact zok48 | exact zok49 | exact zok50 | exact zok51 | exact zok52 | exact zok53 | exact zok54 | exact zok55 | exact zok56 | exact zok57 | exact zok58 | exact zok59 | exact zok60 | exact zok61 | exact zok62 | exact zok63 | exact zok64 | exact zok65 | exact zok66 | exact zok68 | exact zok69 | exact zok75 | exact zok79)
    | cases h
theorem d0Ok : D0.Ok := ⟨eOk, eEq, cOk, zeroOk⟩
end Go.Proofs.Ytphjnagmlgmdfaa
