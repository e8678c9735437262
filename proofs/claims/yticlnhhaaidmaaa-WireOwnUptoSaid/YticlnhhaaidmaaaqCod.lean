/-
The types of this seat's program, as the evaluator asks them, and how their data are told. Written by wip/tools/gen2.py.
-/
import Derived.Test.YticlnhhaaidmaaaProg
import Derived.Test.YticlnhhaaidmaaaqTvR
import Derived.KernelRfl
set_option linter.unusedVariables false
set_option linter.unusedSimpArgs false
set_option maxHeartbeats 8000000
set_option maxRecDepth 100000
namespace Go.Proofs.Yticlnhhaaidmaaa
open Go Go.Ev
def ti1 : TI := ⟨.func #[] #[] false, 1, 8, [.v .nilFunc]⟩
def ti2 : TI := ⟨.int .i64, 1, 8, [.v (.int .i64 0)]⟩
def ti3 : TI := ⟨.int .i64, 1, 8, [.v (.int .i64 0)]⟩
def ti4 : TI := ⟨.bool, 1, 1, [.v (.bool false)]⟩
def ti5 : TI := ⟨.int .u8, 1, 1, [.v (.int .u8 0)]⟩
def ti9 : TI := ⟨.string, 1, 16, [.v (.string ⟨#[]⟩)]⟩
def ti12 : TI := ⟨.int .u64, 1, 8, [.v (.int .u64 0)]⟩
def ti17 : TI := ⟨.pointer 95, 1, 8, [.v (.pointer none)]⟩
def ti21 : TI := ⟨.int .i32, 1, 4, [.v (.int .i32 0)]⟩
def ti22 : TI := ⟨.slice 23, 1, 24, [.v (.slice none 0 0)]⟩
def ti23 : TI := ⟨.slice 5, 1, 24, [.v (.slice none 0 0)]⟩
def ti24 : TI := ⟨.func #[] #[4] false, 1, 8, [.v .nilFunc]⟩
def ti25 : TI := ⟨.int .u32, 1, 4, [.v (.int .u32 0)]⟩
def ti26 : TI := ⟨.func #[22] #[25] true, 1, 8, [.v .nilFunc]⟩
def ti27 : TI := ⟨.func #[23] #[25] false, 1, 8, [.v .nilFunc]⟩
def ti28 : TI := ⟨.func #[22] #[4] false, 1, 8, [.v .nilFunc]⟩
def ti29 : TI := ⟨.slice 33, 1, 24, [.v (.slice none 0 0)]⟩
def ti30 : TI := ⟨.pointer 63, 1, 8, [.v (.pointer none)]⟩
def ti31 : TI := ⟨.func #[] #[30] false, 1, 8, [.v .nilFunc]⟩
def ti32 : TI := ⟨.struct #[⟨ "Kind", 3, 0, false, "", "", 0⟩, ⟨ "N", 2, 1, false, "", "", 8⟩, ⟨ "B", 23, 2, false, "", "", 16⟩], 3, 40, [.v (.int .i64 0), .v (.int .i64 0), .v (.slice none 0 0)]⟩
def ti33 : TI := ⟨.struct #[⟨ "Kind", 3, 0, false, "", "", 0⟩, ⟨ "N", 2, 1, false, "", "", 8⟩, ⟨ "B", 23, 2, false, "", "", 16⟩], 3, 40, [.v (.int .i64 0), .v (.int .i64 0), .v (.slice none 0 0)]⟩
def ti34 : TI := ⟨.int .i64, 1, 8, [.v (.int .i64 0)]⟩
def ti36 : TI := ⟨.func #[30, 33] #[23, 34] false, 1, 8, [.v .nilFunc]⟩
def ti37 : TI := ⟨.func #[] #[3] false, 1, 8, [.v .nilFunc]⟩
def ti38 : TI := ⟨.func #[23, 23] #[4] false, 1, 8, [.v .nilFunc]⟩
def ti39 : TI := ⟨.func #[] #[23] false, 1, 8, [.v .nilFunc]⟩
def ti40 : TI := ⟨.func #[29] #[4] false, 1, 8, [.v .nilFunc]⟩
def ti41 : TI := ⟨.int .u16, 1, 2, [.v (.int .u16 0)]⟩
def ti42 : TI := ⟨.pointer 66, 1, 8, [.v (.pointer none)]⟩
def ti43 : TI := ⟨.func #[23] #[42] false, 1, 8, [.v .nilFunc]⟩
def ti45 : TI := ⟨.func #[] #[2, 34] false, 1, 8, [.v .nilFunc]⟩
def ti46 : TI := ⟨.func #[] #[23, 34] false, 1, 8, [.v .nilFunc]⟩
def ti48 : TI := ⟨.func #[] #[4, 34] false, 1, 8, [.v .nilFunc]⟩
def ti49 : TI := ⟨.func #[29, 41] #[4] false, 1, 8, [.v .nilFunc]⟩
def ti50 : TI := ⟨.struct #[⟨ "B", 23, 0, false, "", "", 0⟩], 1, 24, [.v (.slice none 0 0)]⟩
def ti51 : TI := ⟨.struct #[⟨ "B", 23, 0, false, "", "", 0⟩], 1, 24, [.v (.slice none 0 0)]⟩
def ti53 : TI := ⟨.func #[] #[9, 34] false, 1, 8, [.v .nilFunc]⟩
def ti54 : TI := ⟨.func #[] #[34] false, 1, 8, [.v .nilFunc]⟩
def ti55 : TI := ⟨.func #[23, 29] #[4] false, 1, 8, [.v .nilFunc]⟩
def ti56 : TI := ⟨.func #[2] #[34] false, 1, 8, [.v .nilFunc]⟩
def ti57 : TI := ⟨.func #[23] #[34] false, 1, 8, [.v .nilFunc]⟩
def ti58 : TI := ⟨.func #[4] #[34] false, 1, 8, [.v .nilFunc]⟩
def ti59 : TI := ⟨.func #[23] #[23, 34] false, 1, 8, [.v .nilFunc]⟩
def ti60 : TI := ⟨.func #[23] #[23] false, 1, 8, [.v .nilFunc]⟩
def ti61 : TI := ⟨.func #[23] #[4] false, 1, 8, [.v .nilFunc]⟩
def ti62 : TI := ⟨.struct #[⟨ "made", 4, 0, false, "", "orchard/wire", 0⟩, ⟨ "b", 23, 1, false, "", "orchard/wire", 8⟩], 2, 32, [.v (.bool false), .v (.slice none 0 0)]⟩
def ti63 : TI := ⟨.struct #[⟨ "made", 4, 0, false, "", "orchard/wire", 0⟩, ⟨ "b", 23, 1, false, "", "orchard/wire", 8⟩], 2, 32, [.v (.bool false), .v (.slice none 0 0)]⟩
def ti64 : TI := ⟨.slice 30, 1, 24, [.v (.slice none 0 0)]⟩
def ti65 : TI := ⟨.func #[9] #[34] false, 1, 8, [.v .nilFunc]⟩
def ti66 : TI := ⟨.struct #[⟨ "made", 4, 0, false, "", "orchard/wire", 0⟩, ⟨ "b", 23, 1, false, "", "orchard/wire", 8⟩], 2, 32, [.v (.bool false), .v (.slice none 0 0)]⟩
def ti67 : TI := ⟨.slice 42, 1, 24, [.v (.slice none 0 0)]⟩
def ti68 : TI := ⟨.func #[2, 23] #[4] false, 1, 8, [.v .nilFunc]⟩
def ti70 : TI := ⟨.func #[23] #[23, 3, 34] false, 1, 8, [.v .nilFunc]⟩
def ti71 : TI := ⟨.func #[23, 23, 41] #[4] false, 1, 8, [.v .nilFunc]⟩
def ti72 : TI := ⟨.int .u64, 1, 8, [.v (.int .u64 0)]⟩
def ti73 : TI := ⟨.func #[2] #[23] false, 1, 8, [.v .nilFunc]⟩
def ti75 : TI := ⟨.func #[23] #[2, 3, 34] false, 1, 8, [.v .nilFunc]⟩
def ti76 : TI := ⟨.pointer 51, 1, 8, [.v (.pointer none)]⟩
def ti77 : TI := ⟨.func #[22] #[34] true, 1, 8, [.v .nilFunc]⟩
def ti78 : TI := ⟨.func #[22] #[23] true, 1, 8, [.v .nilFunc]⟩
def ti79 : TI := ⟨.func #[25] #[23] false, 1, 8, [.v .nilFunc]⟩
def ti80 : TI := ⟨.int .u64, 1, 8, [.v (.int .u64 0)]⟩
def ti81 : TI := ⟨.func #[23, 3] #[23] false, 1, 8, [.v .nilFunc]⟩
def ti82 : TI := ⟨.func #[] #[9] false, 1, 8, [.v .nilFunc]⟩
def ti91 : TI := ⟨.pointer 5, 1, 8, [.v (.pointer none)]⟩
def tyT : Nat → Option TI
  | 1 => some ti1
  | 2 => some ti2
  | 3 => some ti3
  | 4 => some ti4
  | 5 => some ti5
  | 9 => some ti9
  | 12 => some ti12
  | 17 => some ti17
  | 21 => some ti21
  | 22 => some ti22
  | 23 => some ti23
  | 24 => some ti24
  | 25 => some ti25
  | 26 => some ti26
  | 27 => some ti27
  | 28 => some ti28
  | 29 => some ti29
  | 30 => some ti30
  | 31 => some ti31
  | 32 => some ti32
  | 33 => some ti33
  | 34 => some ti34
  | 36 => some ti36
  | 37 => some ti37
  | 38 => some ti38
  | 39 => some ti39
  | 40 => some ti40
  | 41 => some ti41
  | 42 => some ti42
  | 43 => some ti43
  | 45 => some ti45
  | 46 => some ti46
  | 48 => some ti48
  | 49 => some ti49
  | 50 => some ti50
  | 51 => some ti51
  | 53 => some ti53
  | 54 => some ti54
  | 55 => some ti55
  | 56 => some ti56
  | 57 => some ti57
  | 58 => some ti58
  | 59 => some ti59
  | 60 => some ti60
  | 61 => some ti61
  | 62 => some ti62
  | 63 => some ti63
  | 64 => some ti64
  | 65 => some ti65
  | 66 => some ti66
  | 67 => some ti67
  | 68 => some ti68
  | 70 => some ti70
  | 71 => some ti71
  | 72 => some ti72
  | 73 => some ti73
  | 75 => some ti75
  | 76 => some ti76
  | 77 => some ti77
  | 78 => some ti78
  | 79 => some ti79
  | 80 => some ti80
  | 81 => some ti81
  | 82 => some ti82
  | 91 => some ti91
  | _ => none
def eqT : Nat → Option (List Kd)
  | _ => none
noncomputable def E : Env := ⟨Try.prog, tyT, eqT, none⟩
theorem tok1 : TyOk E.P 1 ti1 := tyOkV (z := .nilFunc) (by kernel_rfl) rfl (by kernel_rfl) (by kernel_rfl)
theorem tok2 : TyOk E.P 2 ti2 := tyOkV (z := (.int .i64 0)) (by kernel_rfl) rfl (by kernel_rfl) (by kernel_rfl)
theorem tok3 : TyOk E.P 3 ti3 := tyOkV (z := (.int .i64 0)) (by kernel_rfl) rfl (by kernel_rfl) (by kernel_rfl)
theorem tok4 : TyOk E.P 4 ti4 := tyOkV (z := (.bool false)) (by kernel_rfl) rfl (by kernel_rfl) (by kernel_rfl)
theorem tok5 : TyOk E.P 5 ti5 := tyOkV (z := (.int .u8 0)) (by kernel_rfl) rfl (by kernel_rfl) (by kernel_rfl)
theorem tok9 : TyOk E.P 9 ti9 := tyOkV (z := (.string ⟨#[]⟩)) (by kernel_rfl) rfl (by kernel_rfl) (by kernel_rfl)
theorem tok12 : TyOk E.P 12 ti12 := tyOkV (z := (.int .u64 0)) (by kernel_rfl) rfl (by kernel_rfl) (by kernel_rfl)
theorem tok17 : TyOk E.P 17 ti17 := tyOkV (z := (.pointer none)) (by kernel_rfl) rfl (by kernel_rfl) (by kernel_rfl)
theorem tok21 : TyOk E.P 21 ti21 := tyOkV (z := (.int .i32 0)) (by kernel_rfl) rfl (by kernel_rfl) (by kernel_rfl)
theorem tok22 : TyOk E.P 22 ti22 := tyOkV (z := (.slice none 0 0)) (by kernel_rfl) rfl (by kernel_rfl) (by kernel_rfl)
theorem tok23 : TyOk E.P 23 ti23 := tyOkV (z := (.slice none 0 0)) (by kernel_rfl) rfl (by kernel_rfl) (by kernel_rfl)
theorem tok24 : TyOk E.P 24 ti24 := tyOkV (z := .nilFunc) (by kernel_rfl) rfl (by kernel_rfl) (by kernel_rfl)
theorem tok25 : TyOk E.P 25 ti25 := tyOkV (z := (.int .u32 0)) (by kernel_rfl) rfl (by kernel_rfl) (by kernel_rfl)
theorem tok26 : TyOk E.P 26 ti26 := tyOkV (z := .nilFunc) (by kernel_rfl) rfl (by kernel_rfl) (by kernel_rfl)
theorem tok27 : TyOk E.P 27 ti27 := tyOkV (z := .nilFunc) (by kernel_rfl) rfl (by kernel_rfl) (by kernel_rfl)
theorem tok28 : TyOk E.P 28 ti28 := tyOkV (z := .nilFunc) (by kernel_rfl) rfl (by kernel_rfl) (by kernel_rfl)
theorem tok29 : TyOk E.P 29 ti29 := tyOkV (z := (.slice none 0 0)) (by kernel_rfl) rfl (by kernel_rfl) (by kernel_rfl)
theorem tok30 : TyOk E.P 30 ti30 := tyOkV (z := (.pointer none)) (by kernel_rfl) rfl (by kernel_rfl) (by kernel_rfl)
theorem tok31 : TyOk E.P 31 ti31 := tyOkV (z := .nilFunc) (by kernel_rfl) rfl (by kernel_rfl) (by kernel_rfl)
theorem tok32 : TyOk E.P 32 ti32 := tyOkV (z := (.agg #[(.int .i64 0), (.int .i64 0), (.slice none 0 0)])) (by kernel_rfl) rfl (by kernel_rfl) (by kernel_rfl)
theorem tok33 : TyOk E.P 33 ti33 := tyOkV (z := (.agg #[(.int .i64 0), (.int .i64 0), (.slice none 0 0)])) (by kernel_rfl) rfl (by kernel_rfl) (by kernel_rfl)
theorem tok34 : TyOk E.P 34 ti34 := tyOkV (z := (.int .i64 0)) (by kernel_rfl) rfl (by kernel_rfl) (by kernel_rfl)
theorem tok36 : TyOk E.P 36 ti36 := tyOkV (z := .nilFunc) (by kernel_rfl) rfl (by kernel_rfl) (by kernel_rfl)
theorem tok37 : TyOk E.P 37 ti37 := tyOkV (z := .nilFunc) (by kernel_rfl) rfl (by kernel_rfl) (by kernel_rfl)
theorem tok38 : TyOk E.P 38 ti38 := tyOkV (z := .nilFunc) (by kernel_rfl) rfl (by kernel_rfl) (by kernel_rfl)
theorem tok39 : TyOk E.P 39 ti39 := tyOkV (z := .nilFunc) (by kernel_rfl) rfl (by kernel_rfl) (by kernel_rfl)
theorem tok40 : TyOk E.P 40 ti40 := tyOkV (z := .nilFunc) (by kernel_rfl) rfl (by kernel_rfl) (by kernel_rfl)
theorem tok41 : TyOk E.P 41 ti41 := tyOkV (z := (.int .u16 0)) (by kernel_rfl) rfl (by kernel_rfl) (by kernel_rfl)
theorem tok42 : TyOk E.P 42 ti42 := tyOkV (z := (.pointer none)) (by kernel_rfl) rfl (by kernel_rfl) (by kernel_rfl)
theorem tok43 : TyOk E.P 43 ti43 := tyOkV (z := .nilFunc) (by kernel_rfl) rfl (by kernel_rfl) (by kernel_rfl)
theorem tok45 : TyOk E.P 45 ti45 := tyOkV (z := .nilFunc) (by kernel_rfl) rfl (by kernel_rfl) (by kernel_rfl)
theorem tok46 : TyOk E.P 46 ti46 := tyOkV (z := .nilFunc) (by kernel_rfl) rfl (by kernel_rfl) (by kernel_rfl)
theorem tok48 : TyOk E.P 48 ti48 := tyOkV (z := .nilFunc) (by kernel_rfl) rfl (by kernel_rfl) (by kernel_rfl)
theorem tok49 : TyOk E.P 49 ti49 := tyOkV (z := .nilFunc) (by kernel_rfl) rfl (by kernel_rfl) (by kernel_rfl)
theorem tok50 : TyOk E.P 50 ti50 := tyOkV (z := (.agg #[(.slice none 0 0)])) (by kernel_rfl) rfl (by kernel_rfl) (by kernel_rfl)
theorem tok51 : TyOk E.P 51 ti51 := tyOkV (z := (.agg #[(.slice none 0 0)])) (by kernel_rfl) rfl (by kernel_rfl) (by kernel_rfl)
theorem tok53 : TyOk E.P 53 ti53 := tyOkV (z := .nilFunc) (by kernel_rfl) rfl (by kernel_rfl) (by kernel_rfl)
theorem tok54 : TyOk E.P 54 ti54 := tyOkV (z := .nilFunc) (by kernel_rfl) rfl (by kernel_rfl) (by kernel_rfl)
theorem tok55 : TyOk E.P 55 ti55 := tyOkV (z := .nilFunc) (by kernel_rfl) rfl (by kernel_rfl) (by kernel_rfl)
theorem tok56 : TyOk E.P 56 ti56 := tyOkV (z := .nilFunc) (by kernel_rfl) rfl (by kernel_rfl) (by kernel_rfl)
theorem tok57 : TyOk E.P 57 ti57 := tyOkV (z := .nilFunc) (by kernel_rfl) rfl (by kernel_rfl) (by kernel_rfl)
theorem tok58 : TyOk E.P 58 ti58 := tyOkV (z := .nilFunc) (by kernel_rfl) rfl (by kernel_rfl) (by kernel_rfl)
theorem tok59 : TyOk E.P 59 ti59 := tyOkV (z := .nilFunc) (by kernel_rfl) rfl (by kernel_rfl) (by kernel_rfl)
theorem tok60 : TyOk E.P 60 ti60 := tyOkV (z := .nilFunc) (by kernel_rfl) rfl (by kernel_rfl) (by kernel_rfl)
theorem tok61 : TyOk E.P 61 ti61 := tyOkV (z := .nilFunc) (by kernel_rfl) rfl (by kernel_rfl) (by kernel_rfl)
theorem tok62 : TyOk E.P 62 ti62 := tyOkV (z := (.agg #[(.bool false), (.slice none 0 0)])) (by kernel_rfl) rfl (by kernel_rfl) (by kernel_rfl)
theorem tok63 : TyOk E.P 63 ti63 := tyOkV (z := (.agg #[(.bool false), (.slice none 0 0)])) (by kernel_rfl) rfl (by kernel_rfl) (by kernel_rfl)
theorem tok64 : TyOk E.P 64 ti64 := tyOkV (z := (.slice none 0 0)) (by kernel_rfl) rfl (by kernel_rfl) (by kernel_rfl)
theorem tok65 : TyOk E.P 65 ti65 := tyOkV (z := .nilFunc) (by kernel_rfl) rfl (by kernel_rfl) (by kernel_rfl)
theorem tok66 : TyOk E.P 66 ti66 := tyOkV (z := (.agg #[(.bool false), (.slice none 0 0)])) (by kernel_rfl) rfl (by kernel_rfl) (by kernel_rfl)
theorem tok67 : TyOk E.P 67 ti67 := tyOkV (z := (.slice none 0 0)) (by kernel_rfl) rfl (by kernel_rfl) (by kernel_rfl)
theorem tok68 : TyOk E.P 68 ti68 := tyOkV (z := .nilFunc) (by kernel_rfl) rfl (by kernel_rfl) (by kernel_rfl)
theorem tok70 : TyOk E.P 70 ti70 := tyOkV (z := .nilFunc) (by kernel_rfl) rfl (by kernel_rfl) (by kernel_rfl)
theorem tok71 : TyOk E.P 71 ti71 := tyOkV (z := .nilFunc) (by kernel_rfl) rfl (by kernel_rfl) (by kernel_rfl)
theorem tok72 : TyOk E.P 72 ti72 := tyOkV (z := (.int .u64 0)) (by kernel_rfl) rfl (by kernel_rfl) (by kernel_rfl)
theorem tok73 : TyOk E.P 73 ti73 := tyOkV (z := .nilFunc) (by kernel_rfl) rfl (by kernel_rfl) (by kernel_rfl)
theorem tok75 : TyOk E.P 75 ti75 := tyOkV (z := .nilFunc) (by kernel_rfl) rfl (by kernel_rfl) (by kernel_rfl)
theorem tok76 : TyOk E.P 76 ti76 := tyOkV (z := (.pointer none)) (by kernel_rfl) rfl (by kernel_rfl) (by kernel_rfl)
theorem tok77 : TyOk E.P 77 ti77 := tyOkV (z := .nilFunc) (by kernel_rfl) rfl (by kernel_rfl) (by kernel_rfl)
theorem tok78 : TyOk E.P 78 ti78 := tyOkV (z := .nilFunc) (by kernel_rfl) rfl (by kernel_rfl) (by kernel_rfl)
theorem tok79 : TyOk E.P 79 ti79 := tyOkV (z := .nilFunc) (by kernel_rfl) rfl (by kernel_rfl) (by kernel_rfl)
theorem tok80 : TyOk E.P 80 ti80 := tyOkV (z := (.int .u64 0)) (by kernel_rfl) rfl (by kernel_rfl) (by kernel_rfl)
theorem tok81 : TyOk E.P 81 ti81 := tyOkV (z := .nilFunc) (by kernel_rfl) rfl (by kernel_rfl) (by kernel_rfl)
theorem tok82 : TyOk E.P 82 ti82 := tyOkV (z := .nilFunc) (by kernel_rfl) rfl (by kernel_rfl) (by kernel_rfl)
theorem tok91 : TyOk E.P 91 ti91 := tyOkV (z := (.pointer none)) (by kernel_rfl) rfl (by kernel_rfl) (by kernel_rfl)
theorem eOk : E.Ok := by
  intro t i h
  have h' : tyT t = some i := h
  unfold tyT at h'
  split at h' <;> first
    | (cases h'; first | exact tok1 | exact tok2 | exact tok3 | exact tok4 | exact tok5 | exact tok9 | exact tok12 | exact tok17 | exact tok21 | exact tok22 | exact tok23 | exact tok24 | exact tok25 | exact tok26 | exact tok27 | exact tok28 | exact tok29 | exact tok30 | exact tok31 | exact tok32 | exact tok33 | exact tok34 | exact tok36 | exact tok37 | exact tok38 | exact tok39 | exact tok40 | exact tok41 | exact tok42 | exact tok43 | exact tok45 | exact tok46 | exact tok48 | exact tok49 | exact tok50 | exact tok51 | exact tok53 | exact tok54 | exact tok55 | exact tok56 | exact tok57 | exact tok58 | exact tok59 | exact tok60 | exact tok61 | exact tok62 | exact tok63 | exact tok64 | exact tok65 | exact tok66 | exact tok67 | exact tok68 | exact tok70 | exact tok71 | exact tok72 | exact tok73 | exact tok75 | exact tok76 | exact tok77 | exact tok78 | exact tok79 | exact tok80 | exact tok81 | exact tok82 | exact tok91)
    | cases h'
theorem eEq : E.EqOk := by
  intro t ks h
  have h' : eqT t = some ks := h
  unfold eqT at h'
  split at h' <;> first
    | (cases h'; exact ⟨by kernel_rfl, by kernel_rfl, by kernel_rfl⟩)
    | cases h'
theorem eGood : Go.Ev.Good E := ⟨eOk, eEq, by kernel_rfl⟩
structure Gorchardlaw01_Part where
  Kind : Int
  N : Int
  B : List (Int)
instance : Inhabited Gorchardlaw01_Part := ⟨⟨default, default, default⟩⟩
structure Gorchardref01_Reader where
  B : List (Int)
instance : Inhabited Gorchardref01_Reader := ⟨⟨default⟩⟩
structure Gwire_Writer where
  made : Bool
  b : List (Int)
instance : Inhabited Gwire_Writer := ⟨⟨default, default⟩⟩
@[reducible] def τ : Nat → Type
  | 2 => Int
  | 3 => Int
  | 4 => Bool
  | 5 => Int
  | 9 => List UInt8
  | 12 => Int
  | 21 => Int
  | 22 => List (List (Int))
  | 23 => List (Int)
  | 25 => Int
  | 29 => List (Gorchardlaw01_Part)
  | 32 => Gorchardlaw01_Part
  | 33 => Gorchardlaw01_Part
  | 34 => Int
  | 41 => Int
  | 50 => Gorchardref01_Reader
  | 51 => Gorchardref01_Reader
  | 62 => Gwire_Writer
  | 63 => Gwire_Writer
  | 66 => Gwire_Writer
  | 72 => Int
  | 80 => Int
  | _ => Unit
def cel2 (x : Int) : List AV := [.v (.int .i64 x)]
def enc2 (x : Int) : TV τ := .int .i64 x
def dec2 (x : TV τ) : Option (Int) := dInt .i64 x
def beq2 (x y : Int) : Bool := (x == y)
def cel3 (x : Int) : List AV := [.v (.int .i64 x)]
def enc3 (x : Int) : TV τ := .int .i64 x
def dec3 (x : TV τ) : Option (Int) := dInt .i64 x
def beq3 (x y : Int) : Bool := (x == y)
def cel4 (x : Bool) : List AV := [.v (.bool x)]
def enc4 (x : Bool) : TV τ := .bool x
def dec4 (x : TV τ) : Option (Bool) := dBool x
def beq4 (x y : Bool) : Bool := (x == y)
def cel5 (x : Int) : List AV := [.v (.int .u8 x)]
def enc5 (x : Int) : TV τ := .int .u8 x
def dec5 (x : TV τ) : Option (Int) := dInt .u8 x
def beq5 (x y : Int) : Bool := (x == y)
def cel9 (x : List UInt8) : List AV := [.v (.string ⟨⟨x⟩⟩)]
def enc9 (x : List UInt8) : TV τ := .str x
def dec9 (x : TV τ) : Option (List UInt8) := dStr x
def beq9 (x y : List UInt8) : Bool := (x == y)
def cel12 (x : Int) : List AV := [.v (.int .u64 x)]
def enc12 (x : Int) : TV τ := .int .u64 x
def dec12 (x : TV τ) : Option (Int) := dInt .u64 x
def beq12 (x y : Int) : Bool := (x == y)
def cel21 (x : Int) : List AV := [.v (.int .i32 x)]
def enc21 (x : Int) : TV τ := .int .i32 x
def dec21 (x : TV τ) : Option (Int) := dInt .i32 x
def beq21 (x y : Int) : Bool := (x == y)
def cel23 (x : List (Int)) : List AV := [.asl 1 (x.map cel5)]
def enc23 (x : List (Int)) : TV τ := .sl 5 x .any
def dec23 (x : TV τ) : Option (List (Int)) := dSl 5 x
def cel22 (x : List (List (Int))) : List AV := [.asl 1 (x.map cel23)]
def enc22 (x : List (List (Int))) : TV τ := .sl 23 x .any
def dec22 (x : TV τ) : Option (List (List (Int))) := dSl 23 x
def cel25 (x : Int) : List AV := [.v (.int .u32 x)]
def enc25 (x : Int) : TV τ := .int .u32 x
def dec25 (x : TV τ) : Option (Int) := dInt .u32 x
def beq25 (x y : Int) : Bool := (x == y)
def cel33 (x : Gorchardlaw01_Part) : List AV := (cel3 x.Kind ++ (cel2 x.N ++ (cel23 x.B ++ [])))
def enc33 (x : Gorchardlaw01_Part) : TV τ := .agg [enc3 x.Kind, enc2 x.N, enc23 x.B]
def dec33 (x : TV τ) : Option (Gorchardlaw01_Part) := (match x with | .agg [x0, x1, x2] => (match dec3 x0 with | some a0 => (match dec2 x1 with | some a1 => (match dec23 x2 with | some a2 => some ⟨a0, a1, a2⟩ | none => none) | none => none) | none => none) | _ => none)
def cel29 (x : List (Gorchardlaw01_Part)) : List AV := [.asl 3 (x.map cel33)]
def enc29 (x : List (Gorchardlaw01_Part)) : TV τ := .sl 33 x .any
def dec29 (x : TV τ) : Option (List (Gorchardlaw01_Part)) := dSl 33 x
def cel32 (x : Gorchardlaw01_Part) : List AV := (cel3 x.Kind ++ (cel2 x.N ++ (cel23 x.B ++ [])))
def enc32 (x : Gorchardlaw01_Part) : TV τ := .agg [enc3 x.Kind, enc2 x.N, enc23 x.B]
def dec32 (x : TV τ) : Option (Gorchardlaw01_Part) := (match x with | .agg [x0, x1, x2] => (match dec3 x0 with | some a0 => (match dec2 x1 with | some a1 => (match dec23 x2 with | some a2 => some ⟨a0, a1, a2⟩ | none => none) | none => none) | none => none) | _ => none)
def cel34 (x : Int) : List AV := [.v (.int .i64 x)]
def enc34 (x : Int) : TV τ := .int .i64 x
def dec34 (x : TV τ) : Option (Int) := dInt .i64 x
def beq34 (x y : Int) : Bool := (x == y)
def cel41 (x : Int) : List AV := [.v (.int .u16 x)]
def enc41 (x : Int) : TV τ := .int .u16 x
def dec41 (x : TV τ) : Option (Int) := dInt .u16 x
def beq41 (x y : Int) : Bool := (x == y)
def cel50 (x : Gorchardref01_Reader) : List AV := (cel23 x.B ++ [])
def enc50 (x : Gorchardref01_Reader) : TV τ := .agg [enc23 x.B]
def dec50 (x : TV τ) : Option (Gorchardref01_Reader) := (match x with | .agg [x0] => (match dec23 x0 with | some a0 => some ⟨a0⟩ | none => none) | _ => none)
def cel51 (x : Gorchardref01_Reader) : List AV := (cel23 x.B ++ [])
def enc51 (x : Gorchardref01_Reader) : TV τ := .agg [enc23 x.B]
def dec51 (x : TV τ) : Option (Gorchardref01_Reader) := (match x with | .agg [x0] => (match dec23 x0 with | some a0 => some ⟨a0⟩ | none => none) | _ => none)
def cel62 (x : Gwire_Writer) : List AV := (cel4 x.made ++ (cel23 x.b ++ []))
def enc62 (x : Gwire_Writer) : TV τ := .agg [enc4 x.made, enc23 x.b]
def dec62 (x : TV τ) : Option (Gwire_Writer) := (match x with | .agg [x0, x1] => (match dec4 x0 with | some a0 => (match dec23 x1 with | some a1 => some ⟨a0, a1⟩ | none => none) | none => none) | _ => none)
def cel63 (x : Gwire_Writer) : List AV := (cel4 x.made ++ (cel23 x.b ++ []))
def enc63 (x : Gwire_Writer) : TV τ := .agg [enc4 x.made, enc23 x.b]
def dec63 (x : TV τ) : Option (Gwire_Writer) := (match x with | .agg [x0, x1] => (match dec4 x0 with | some a0 => (match dec23 x1 with | some a1 => some ⟨a0, a1⟩ | none => none) | none => none) | _ => none)
def cel66 (x : Gwire_Writer) : List AV := (cel4 x.made ++ (cel23 x.b ++ []))
def enc66 (x : Gwire_Writer) : TV τ := .agg [enc4 x.made, enc23 x.b]
def dec66 (x : TV τ) : Option (Gwire_Writer) := (match x with | .agg [x0, x1] => (match dec4 x0 with | some a0 => (match dec23 x1 with | some a1 => some ⟨a0, a1⟩ | none => none) | none => none) | _ => none)
def cel72 (x : Int) : List AV := [.v (.int .u64 x)]
def enc72 (x : Int) : TV τ := .int .u64 x
def dec72 (x : TV τ) : Option (Int) := dInt .u64 x
def beq72 (x y : Int) : Bool := (x == y)
def cel80 (x : Int) : List AV := [.v (.int .u64 x)]
def enc80 (x : Int) : TV τ := .int .u64 x
def dec80 (x : TV τ) : Option (Int) := dInt .u64 x
def beq80 (x y : Int) : Bool := (x == y)
def celT : (t : Nat) → τ t → List AV
  | 2 => cel2
  | 3 => cel3
  | 4 => cel4
  | 5 => cel5
  | 9 => cel9
  | 12 => cel12
  | 21 => cel21
  | 22 => cel22
  | 23 => cel23
  | 25 => cel25
  | 29 => cel29
  | 32 => cel32
  | 33 => cel33
  | 34 => cel34
  | 41 => cel41
  | 50 => cel50
  | 51 => cel51
  | 62 => cel62
  | 63 => cel63
  | 66 => cel66
  | 72 => cel72
  | 80 => cel80
  | _ => fun _ => []
def encT : (t : Nat) → τ t → TV τ
  | 2 => enc2
  | 3 => enc3
  | 4 => enc4
  | 5 => enc5
  | 9 => enc9
  | 12 => enc12
  | 21 => enc21
  | 22 => enc22
  | 23 => enc23
  | 25 => enc25
  | 29 => enc29
  | 32 => enc32
  | 33 => enc33
  | 34 => enc34
  | 41 => enc41
  | 50 => enc50
  | 51 => enc51
  | 62 => enc62
  | 63 => enc63
  | 66 => enc66
  | 72 => enc72
  | 80 => enc80
  | _ => fun _ => .agg []
def decT : (t : Nat) → TV τ → Option (τ t)
  | 2 => dec2
  | 3 => dec3
  | 4 => dec4
  | 5 => dec5
  | 9 => dec9
  | 12 => dec12
  | 21 => dec21
  | 22 => dec22
  | 23 => dec23
  | 25 => dec25
  | 29 => dec29
  | 32 => dec32
  | 33 => dec33
  | 34 => dec34
  | 41 => dec41
  | 50 => dec50
  | 51 => dec51
  | 62 => dec62
  | 63 => dec63
  | 66 => dec66
  | 72 => dec72
  | 80 => dec80
  | _ => fun _ => none
theorem dfN (t : Nat) : Nonempty (τ t) := by unfold τ; split <;> exact ⟨default⟩
noncomputable def dfX (t : Nat) : τ t := Classical.choice (dfN t)
noncomputable def dfT : (t : Nat) → τ t
  | 2 => (default : Int)
  | 3 => (default : Int)
  | 4 => (default : Bool)
  | 5 => (default : Int)
  | 9 => (default : List UInt8)
  | 12 => (default : Int)
  | 21 => (default : Int)
  | 22 => (default : List (List (Int)))
  | 23 => (default : List (Int))
  | 25 => (default : Int)
  | 29 => (default : List (Gorchardlaw01_Part))
  | 32 => (default : Gorchardlaw01_Part)
  | 33 => (default : Gorchardlaw01_Part)
  | 34 => (default : Int)
  | 41 => (default : Int)
  | 50 => (default : Gorchardref01_Reader)
  | 51 => (default : Gorchardref01_Reader)
  | 62 => (default : Gwire_Writer)
  | 63 => (default : Gwire_Writer)
  | 66 => (default : Gwire_Writer)
  | 72 => (default : Int)
  | 80 => (default : Int)
  | t => dfX t
def szT : Nat → Nat
  | 2 => 1
  | 3 => 1
  | 4 => 1
  | 5 => 1
  | 9 => 1
  | 12 => 1
  | 21 => 1
  | 22 => 1
  | 23 => 1
  | 25 => 1
  | 29 => 1
  | 32 => 3
  | 33 => 3
  | 34 => 1
  | 41 => 1
  | 50 => 1
  | 51 => 1
  | 62 => 2
  | 63 => 2
  | 66 => 2
  | 72 => 1
  | 80 => 1
  | _ => 0
def kdT : Nat → Option (List Kd)
  | 2 => some [.i]
  | 3 => some [.i]
  | 4 => some [.b]
  | 5 => some [.i]
  | 9 => some [.s]
  | 12 => some [.i]
  | 21 => some [.i]
  | 25 => some [.i]
  | 34 => some [.i]
  | 41 => some [.i]
  | 72 => some [.i]
  | 80 => some [.i]
  | _ => none
def beqT : (t : Nat) → τ t → τ t → Bool
  | 2 => beq2
  | 3 => beq3
  | 4 => beq4
  | 5 => beq5
  | 9 => beq9
  | 12 => beq12
  | 21 => beq21
  | 25 => beq25
  | 34 => beq34
  | 41 => beq41
  | 72 => beq72
  | 80 => beq80
  | _ => fun _ _ => false
def b2sT : (t : Nat) → List (τ t) → Option (List UInt8)
  | 5 => fun (l : List Int) => some (strI l)
  | _ => fun _ => none
def s2bT : (t : Nat) → List UInt8 → Option (List (τ t))
  | 5 => fun s => some (bytesI s)
  | _ => fun _ => none
noncomputable def siteT : Nat → Nat → Array Tmp × Code × Code := fun f k => (#[], .skip, .skip)
noncomputable def C : Cod τ := ⟨celT, encT, decT, dfT, szT, kdT, beqT, b2sT, s2bT, siteT⟩
theorem law2 : CodAt C 2 := ⟨fun x => rfl, fun x => rfl, fun x a h => by rw [dInt_x (show dInt .i64 x = some a from h)]; exact .refl _, fun x => rfl, fun x a h => by rw [dInt_x (show dInt .i64 x = some a from h)]; rfl, fun x a h => by rw [dInt_x (show dInt .i64 x = some a from h)]; rfl, fun a => rfl, fun a => noids_one (NoId.v _), fun ks h a b => by cases h; simp [eqCells, scal, C, celT, cel2, beqT, beq2], (fun l s h => nomatch h), (fun s l h => nomatch h)⟩
theorem law3 : CodAt C 3 := ⟨fun x => rfl, fun x => rfl, fun x a h => by rw [dInt_x (show dInt .i64 x = some a from h)]; exact .refl _, fun x => rfl, fun x a h => by rw [dInt_x (show dInt .i64 x = some a from h)]; rfl, fun x a h => by rw [dInt_x (show dInt .i64 x = some a from h)]; rfl, fun a => rfl, fun a => noids_one (NoId.v _), fun ks h a b => by cases h; simp [eqCells, scal, C, celT, cel3, beqT, beq3], (fun l s h => nomatch h), (fun s l h => nomatch h)⟩
theorem law4 : CodAt C 4 := ⟨fun x => rfl, fun x => rfl, fun x a h => by rw [dBool_x (show dBool x = some a from h)]; exact .refl _, fun x => rfl, fun x a h => by rw [dBool_x (show dBool x = some a from h)]; rfl, fun x a h => by rw [dBool_x (show dBool x = some a from h)]; rfl, fun a => rfl, fun a => noids_one (NoId.v _), fun ks h a b => by cases h; simp [eqCells, scal, C, celT, cel4, beqT, beq4], (fun l s h => nomatch h), (fun s l h => nomatch h)⟩
theorem law5 : CodAt C 5 := ⟨fun x => rfl, fun x => rfl, fun x a h => by rw [dInt_x (show dInt .u8 x = some a from h)]; exact .refl _, fun x => rfl, fun x a h => by rw [dInt_x (show dInt .u8 x = some a from h)]; rfl, fun x a h => by rw [dInt_x (show dInt .u8 x = some a from h)]; rfl, fun a => rfl, fun a => noids_one (NoId.v _), fun ks h a b => by cases h; simp [eqCells, scal, C, celT, cel5, beqT, beq5], fun l s h => ⟨rfl, (unbytes_int l).trans h⟩, fun s l h => ⟨rfl, by cases h; show (bytesI s).map cel5 = _; simp [bytesI, cel5, byteCell]⟩⟩
theorem law9 : CodAt C 9 := ⟨fun x => rfl, fun x => rfl, fun x a h => by rw [dStr_x (show dStr x = some a from h)]; exact .refl _, fun x => rfl, fun x a h => by rw [dStr_x (show dStr x = some a from h)]; rfl, fun x a h => by rw [dStr_x (show dStr x = some a from h)]; rfl, fun a => rfl, fun a => noids_one (NoId.v _), fun ks h a b => by cases h; simp [eqCells, scal, C, celT, cel9, beqT, beq9], (fun l s h => nomatch h), (fun s l h => nomatch h)⟩
theorem law12 : CodAt C 12 := ⟨fun x => rfl, fun x => rfl, fun x a h => by rw [dInt_x (show dInt .u64 x = some a from h)]; exact .refl _, fun x => rfl, fun x a h => by rw [dInt_x (show dInt .u64 x = some a from h)]; rfl, fun x a h => by rw [dInt_x (show dInt .u64 x = some a from h)]; rfl, fun a => rfl, fun a => noids_one (NoId.v _), fun ks h a b => by cases h; simp [eqCells, scal, C, celT, cel12, beqT, beq12], (fun l s h => nomatch h), (fun s l h => nomatch h)⟩
theorem law21 : CodAt C 21 := ⟨fun x => rfl, fun x => rfl, fun x a h => by rw [dInt_x (show dInt .i32 x = some a from h)]; exact .refl _, fun x => rfl, fun x a h => by rw [dInt_x (show dInt .i32 x = some a from h)]; rfl, fun x a h => by rw [dInt_x (show dInt .i32 x = some a from h)]; rfl, fun a => rfl, fun a => noids_one (NoId.v _), fun ks h a b => by cases h; simp [eqCells, scal, C, celT, cel21, beqT, beq21], (fun l s h => nomatch h), (fun s l h => nomatch h)⟩
theorem law23 : CodAt C 23 := ⟨fun x => rfl, fun x => rfl, fun x a h => (dSl_cw (C := C) (show dSl 5 x = some a from h)).1, fun x => rfl, fun x a h => (dSl_cw (C := C) (show dSl 5 x = some a from h)).2.1, fun x a h => (dSl_cw (C := C) (show dSl 5 x = some a from h)).2.2, fun a => rfl, fun a => noids_one (NoId.asl fun cs hc => by obtain ⟨y, _, rfl⟩ := List.mem_map.1 hc; exact law5.noid y), (fun ks h => nomatch h), (fun l s h => nomatch h), (fun s l h => nomatch h)⟩
theorem law22 : CodAt C 22 := ⟨fun x => rfl, fun x => rfl, fun x a h => (dSl_cw (C := C) (show dSl 23 x = some a from h)).1, fun x => rfl, fun x a h => (dSl_cw (C := C) (show dSl 23 x = some a from h)).2.1, fun x a h => (dSl_cw (C := C) (show dSl 23 x = some a from h)).2.2, fun a => rfl, fun a => noids_one (NoId.asl fun cs hc => by obtain ⟨y, _, rfl⟩ := List.mem_map.1 hc; exact law23.noid y), (fun ks h => nomatch h), (fun l s h => nomatch h), (fun s l h => nomatch h)⟩
theorem law25 : CodAt C 25 := ⟨fun x => rfl, fun x => rfl, fun x a h => by rw [dInt_x (show dInt .u32 x = some a from h)]; exact .refl _, fun x => rfl, fun x a h => by rw [dInt_x (show dInt .u32 x = some a from h)]; rfl, fun x a h => by rw [dInt_x (show dInt .u32 x = some a from h)]; rfl, fun a => rfl, fun a => noids_one (NoId.v _), fun ks h a b => by cases h; simp [eqCells, scal, C, celT, cel25, beqT, beq25], (fun l s h => nomatch h), (fun s l h => nomatch h)⟩
theorem decx33 {x : TV τ} {a : Gorchardlaw01_Part} (h : dec33 x = some a) : ∃ x0 x1 x2, x = .agg [x0, x1, x2] ∧ dec3 x0 = some a.Kind ∧ dec2 x1 = some a.N ∧ dec23 x2 = some a.B := by
  unfold dec33 at h
  split at h
  · rename_i x0 x1 x2
    split at h
    · rename_i a0 h0
      split at h
      · rename_i a1 h1
        split at h
        · rename_i a2 h2
          cases h
          exact ⟨_, _, _, rfl, h0, h1, h2⟩
        · cases h
      · cases h
    · cases h
  · cases h
theorem law33 : CodAt C 33 := ⟨fun x => by show ((enc3 x.Kind).cells C ++ ((enc2 x.N).cells C ++ ((enc23 x.B).cells C ++ []))) = cel33 x; unfold cel33; exact congr (congrArg (· ++ ·) (law3.cel x.Kind)) (congr (congrArg (· ++ ·) (law2.cel x.N)) (congr (congrArg (· ++ ·) (law23.cel x.B)) (rfl))), fun x => by show ((cel3 x.Kind ++ (cel2 x.N ++ (cel23 x.B ++ [])))).length = 3; rw [List.length_append, List.length_append, List.length_append]; have e0 : (cel3 x.Kind).length = 1 := law3.len x.Kind; have e1 : (cel2 x.N).length = 1 := law2.len x.N; have e2 : (cel23 x.B).length = 1 := law23.len x.B; simp only [e0, e1, e2, List.length_nil], fun x a h => by obtain ⟨x0, x1, x2, rfl, h0, h1, h2⟩ := decx33 (show dec33 x = some a from h); exact CW.append (law3.dec _ _ h0) (CW.append (law2.dec _ _ h1) (CW.append (law23.dec _ _ h2) (CW.refl []))), fun x => by show (((enc3 x.Kind).ok && ((enc2 x.N).ok && ((enc23 x.B).ok && true)))) = true; simp only [show (enc3 x.Kind).ok = true from law3.ok _, show (enc2 x.N).ok = true from law2.ok _, show (enc23 x.B).ok = true from law23.ok _, Bool.and_self], fun x a h => by obtain ⟨x0, x1, x2, rfl, h0, h1, h2⟩ := decx33 (show dec33 x = some a from h); show ((x0.ok && (x1.ok && (x2.ok && true)))) = true; simp only [law3.decok _ _ h0, law2.decok _ _ h1, law23.decok _ _ h2, Bool.and_self], fun x a h => by obtain ⟨x0, x1, x2, rfl, h0, h1, h2⟩ := decx33 (show dec33 x = some a from h); rfl, fun x => by show ((cel3 x.Kind ++ (cel2 x.N ++ (cel23 x.B ++ [])))).all AV.one = true; simp only [List.all_append, List.all_nil, show (cel3 x.Kind).all AV.one = true from law3.one _, show (cel2 x.N).all AV.one = true from law2.one _, show (cel23 x.B).all AV.one = true from law23.one _, Bool.and_self], fun x => noids_app (law3.noid x.Kind) (noids_app (law2.noid x.N) (noids_app (law23.noid x.B) (trivial))), (fun ks h => nomatch h), (fun l s h => nomatch h), (fun s l h => nomatch h)⟩
theorem law29 : CodAt C 29 := ⟨fun x => rfl, fun x => rfl, fun x a h => (dSl_cw (C := C) (show dSl 33 x = some a from h)).1, fun x => rfl, fun x a h => (dSl_cw (C := C) (show dSl 33 x = some a from h)).2.1, fun x a h => (dSl_cw (C := C) (show dSl 33 x = some a from h)).2.2, fun a => rfl, fun a => noids_one (NoId.asl fun cs hc => by obtain ⟨y, _, rfl⟩ := List.mem_map.1 hc; exact law33.noid y), (fun ks h => nomatch h), (fun l s h => nomatch h), (fun s l h => nomatch h)⟩
theorem decx32 {x : TV τ} {a : Gorchardlaw01_Part} (h : dec32 x = some a) : ∃ x0 x1 x2, x = .agg [x0, x1, x2] ∧ dec3 x0 = some a.Kind ∧ dec2 x1 = some a.N ∧ dec23 x2 = some a.B := by
  unfold dec32 at h
  split at h
  · rename_i x0 x1 x2
    split at h
    · rename_i a0 h0
      split at h
      · rename_i a1 h1
        split at h
        · rename_i a2 h2
          cases h
          exact ⟨_, _, _, rfl, h0, h1, h2⟩
        · cases h
      · cases h
    · cases h
  · cases h
theorem law32 : CodAt C 32 := ⟨fun x => by show ((enc3 x.Kind).cells C ++ ((enc2 x.N).cells C ++ ((enc23 x.B).cells C ++ []))) = cel32 x; unfold cel32; exact congr (congrArg (· ++ ·) (law3.cel x.Kind)) (congr (congrArg (· ++ ·) (law2.cel x.N)) (congr (congrArg (· ++ ·) (law23.cel x.B)) (rfl))), fun x => by show ((cel3 x.Kind ++ (cel2 x.N ++ (cel23 x.B ++ [])))).length = 3; rw [List.length_append, List.length_append, List.length_append]; have e0 : (cel3 x.Kind).length = 1 := law3.len x.Kind; have e1 : (cel2 x.N).length = 1 := law2.len x.N; have e2 : (cel23 x.B).length = 1 := law23.len x.B; simp only [e0, e1, e2, List.length_nil], fun x a h => by obtain ⟨x0, x1, x2, rfl, h0, h1, h2⟩ := decx32 (show dec32 x = some a from h); exact CW.append (law3.dec _ _ h0) (CW.append (law2.dec _ _ h1) (CW.append (law23.dec _ _ h2) (CW.refl []))), fun x => by show (((enc3 x.Kind).ok && ((enc2 x.N).ok && ((enc23 x.B).ok && true)))) = true; simp only [show (enc3 x.Kind).ok = true from law3.ok _, show (enc2 x.N).ok = true from law2.ok _, show (enc23 x.B).ok = true from law23.ok _, Bool.and_self], fun x a h => by obtain ⟨x0, x1, x2, rfl, h0, h1, h2⟩ := decx32 (show dec32 x = some a from h); show ((x0.ok && (x1.ok && (x2.ok && true)))) = true; simp only [law3.decok _ _ h0, law2.decok _ _ h1, law23.decok _ _ h2, Bool.and_self], fun x a h => by obtain ⟨x0, x1, x2, rfl, h0, h1, h2⟩ := decx32 (show dec32 x = some a from h); rfl, fun x => by show ((cel3 x.Kind ++ (cel2 x.N ++ (cel23 x.B ++ [])))).all AV.one = true; simp only [List.all_append, List.all_nil, show (cel3 x.Kind).all AV.one = true from law3.one _, show (cel2 x.N).all AV.one = true from law2.one _, show (cel23 x.B).all AV.one = true from law23.one _, Bool.and_self], fun x => noids_app (law3.noid x.Kind) (noids_app (law2.noid x.N) (noids_app (law23.noid x.B) (trivial))), (fun ks h => nomatch h), (fun l s h => nomatch h), (fun s l h => nomatch h)⟩
theorem law34 : CodAt C 34 := ⟨fun x => rfl, fun x => rfl, fun x a h => by rw [dInt_x (show dInt .i64 x = some a from h)]; exact .refl _, fun x => rfl, fun x a h => by rw [dInt_x (show dInt .i64 x = some a from h)]; rfl, fun x a h => by rw [dInt_x (show dInt .i64 x = some a from h)]; rfl, fun a => rfl, fun a => noids_one (NoId.v _), fun ks h a b => by cases h; simp [eqCells, scal, C, celT, cel34, beqT, beq34], (fun l s h => nomatch h), (fun s l h => nomatch h)⟩
theorem law41 : CodAt C 41 := ⟨fun x => rfl, fun x => rfl, fun x a h => by rw [dInt_x (show dInt .u16 x = some a from h)]; exact .refl _, fun x => rfl, fun x a h => by rw [dInt_x (show dInt .u16 x = some a from h)]; rfl, fun x a h => by rw [dInt_x (show dInt .u16 x = some a from h)]; rfl, fun a => rfl, fun a => noids_one (NoId.v _), fun ks h a b => by cases h; simp [eqCells, scal, C, celT, cel41, beqT, beq41], (fun l s h => nomatch h), (fun s l h => nomatch h)⟩
theorem decx50 {x : TV τ} {a : Gorchardref01_Reader} (h : dec50 x = some a) : ∃ x0, x = .agg [x0] ∧ dec23 x0 = some a.B := by
  unfold dec50 at h
  split at h
  · rename_i x0
    split at h
    · rename_i a0 h0
      cases h
      exact ⟨_, rfl, h0⟩
    · cases h
  · cases h
theorem law50 : CodAt C 50 := ⟨fun x => by show ((enc23 x.B).cells C ++ []) = cel50 x; unfold cel50; exact congr (congrArg (· ++ ·) (law23.cel x.B)) (rfl), fun x => by show ((cel23 x.B ++ [])).length = 1; rw [List.length_append]; have e0 : (cel23 x.B).length = 1 := law23.len x.B; simp only [e0, List.length_nil], fun x a h => by obtain ⟨x0, rfl, h0⟩ := decx50 (show dec50 x = some a from h); exact CW.append (law23.dec _ _ h0) (CW.refl []), fun x => by show (((enc23 x.B).ok && true)) = true; simp only [show (enc23 x.B).ok = true from law23.ok _, Bool.and_self], fun x a h => by obtain ⟨x0, rfl, h0⟩ := decx50 (show dec50 x = some a from h); show ((x0.ok && true)) = true; simp only [law23.decok _ _ h0, Bool.and_self], fun x a h => by obtain ⟨x0, rfl, h0⟩ := decx50 (show dec50 x = some a from h); rfl, fun x => by show ((cel23 x.B ++ [])).all AV.one = true; simp only [List.all_append, List.all_nil, show (cel23 x.B).all AV.one = true from law23.one _, Bool.and_self], fun x => noids_app (law23.noid x.B) (trivial), (fun ks h => nomatch h), (fun l s h => nomatch h), (fun s l h => nomatch h)⟩
theorem decx51 {x : TV τ} {a : Gorchardref01_Reader} (h : dec51 x = some a) : ∃ x0, x = .agg [x0] ∧ dec23 x0 = some a.B := by
  unfold dec51 at h
  split at h
  · rename_i x0
    split at h
    · rename_i a0 h0
      cases h
      exact ⟨_, rfl, h0⟩
    · cases h
  · cases h
theorem law51 : CodAt C 51 := ⟨fun x => by show ((enc23 x.B).cells C ++ []) = cel51 x; unfold cel51; exact congr (congrArg (· ++ ·) (law23.cel x.B)) (rfl), fun x => by show ((cel23 x.B ++ [])).length = 1; rw [List.length_append]; have e0 : (cel23 x.B).length = 1 := law23.len x.B; simp only [e0, List.length_nil], fun x a h => by obtain ⟨x0, rfl, h0⟩ := decx51 (show dec51 x = some a from h); exact CW.append (law23.dec _ _ h0) (CW.refl []), fun x => by show (((enc23 x.B).ok && true)) = true; simp only [show (enc23 x.B).ok = true from law23.ok _, Bool.and_self], fun x a h => by obtain ⟨x0, rfl, h0⟩ := decx51 (show dec51 x = some a from h); show ((x0.ok && true)) = true; simp only [law23.decok _ _ h0, Bool.and_self], fun x a h => by obtain ⟨x0, rfl, h0⟩ := decx51 (show dec51 x = some a from h); rfl, fun x => by show ((cel23 x.B ++ [])).all AV.one = true; simp only [List.all_append, List.all_nil, show (cel23 x.B).all AV.one = true from law23.one _, Bool.and_self], fun x => noids_app (law23.noid x.B) (trivial), (fun ks h => nomatch h), (fun l s h => nomatch h), (fun s l h => nomatch h)⟩
theorem decx62 {x : TV τ} {a : Gwire_Writer} (h : dec62 x = some a) : ∃ x0 x1, x = .agg [x0, x1] ∧ dec4 x0 = some a.made ∧ dec23 x1 = some a.b := by
  unfold dec62 at h
  split at h
  · rename_i x0 x1
    split at h
    · rename_i a0 h0
      split at h
      · rename_i a1 h1
        cases h
        exact ⟨_, _, rfl, h0, h1⟩
      · cases h
    · cases h
  · cases h
theorem law62 : CodAt C 62 := ⟨fun x => by show ((enc4 x.made).cells C ++ ((enc23 x.b).cells C ++ [])) = cel62 x; unfold cel62; exact congr (congrArg (· ++ ·) (law4.cel x.made)) (congr (congrArg (· ++ ·) (law23.cel x.b)) (rfl)), fun x => by show ((cel4 x.made ++ (cel23 x.b ++ []))).length = 2; rw [List.length_append, List.length_append]; have e0 : (cel4 x.made).length = 1 := law4.len x.made; have e1 : (cel23 x.b).length = 1 := law23.len x.b; simp only [e0, e1, List.length_nil], fun x a h => by obtain ⟨x0, x1, rfl, h0, h1⟩ := decx62 (show dec62 x = some a from h); exact CW.append (law4.dec _ _ h0) (CW.append (law23.dec _ _ h1) (CW.refl [])), fun x => by show (((enc4 x.made).ok && ((enc23 x.b).ok && true))) = true; simp only [show (enc4 x.made).ok = true from law4.ok _, show (enc23 x.b).ok = true from law23.ok _, Bool.and_self], fun x a h => by obtain ⟨x0, x1, rfl, h0, h1⟩ := decx62 (show dec62 x = some a from h); show ((x0.ok && (x1.ok && true))) = true; simp only [law4.decok _ _ h0, law23.decok _ _ h1, Bool.and_self], fun x a h => by obtain ⟨x0, x1, rfl, h0, h1⟩ := decx62 (show dec62 x = some a from h); rfl, fun x => by show ((cel4 x.made ++ (cel23 x.b ++ []))).all AV.one = true; simp only [List.all_append, List.all_nil, show (cel4 x.made).all AV.one = true from law4.one _, show (cel23 x.b).all AV.one = true from law23.one _, Bool.and_self], fun x => noids_app (law4.noid x.made) (noids_app (law23.noid x.b) (trivial)), (fun ks h => nomatch h), (fun l s h => nomatch h), (fun s l h => nomatch h)⟩
theorem decx63 {x : TV τ} {a : Gwire_Writer} (h : dec63 x = some a) : ∃ x0 x1, x = .agg [x0, x1] ∧ dec4 x0 = some a.made ∧ dec23 x1 = some a.b := by
  unfold dec63 at h
  split at h
  · rename_i x0 x1
    split at h
    · rename_i a0 h0
      split at h
      · rename_i a1 h1
        cases h
        exact ⟨_, _, rfl, h0, h1⟩
      · cases h
    · cases h
  · cases h
theorem law63 : CodAt C 63 := ⟨fun x => by show ((enc4 x.made).cells C ++ ((enc23 x.b).cells C ++ [])) = cel63 x; unfold cel63; exact congr (congrArg (· ++ ·) (law4.cel x.made)) (congr (congrArg (· ++ ·) (law23.cel x.b)) (rfl)), fun x => by show ((cel4 x.made ++ (cel23 x.b ++ []))).length = 2; rw [List.length_append, List.length_append]; have e0 : (cel4 x.made).length = 1 := law4.len x.made; have e1 : (cel23 x.b).length = 1 := law23.len x.b; simp only [e0, e1, List.length_nil], fun x a h => by obtain ⟨x0, x1, rfl, h0, h1⟩ := decx63 (show dec63 x = some a from h); exact CW.append (law4.dec _ _ h0) (CW.append (law23.dec _ _ h1) (CW.refl [])), fun x => by show (((enc4 x.made).ok && ((enc23 x.b).ok && true))) = true; simp only [show (enc4 x.made).ok = true from law4.ok _, show (enc23 x.b).ok = true from law23.ok _, Bool.and_self], fun x a h => by obtain ⟨x0, x1, rfl, h0, h1⟩ := decx63 (show dec63 x = some a from h); show ((x0.ok && (x1.ok && true))) = true; simp only [law4.decok _ _ h0, law23.decok _ _ h1, Bool.and_self], fun x a h => by obtain ⟨x0, x1, rfl, h0, h1⟩ := decx63 (show dec63 x = some a from h); rfl, fun x => by show ((cel4 x.made ++ (cel23 x.b ++ []))).all AV.one = true; simp only [List.all_append, List.all_nil, show (cel4 x.made).all AV.one = true from law4.one _, show (cel23 x.b).all AV.one = true from law23.one _, Bool.and_self], fun x => noids_app (law4.noid x.made) (noids_app (law23.noid x.b) (trivial)), (fun ks h => nomatch h), (fun l s h => nomatch h), (fun s l h => nomatch h)⟩
theorem decx66 {x : TV τ} {a : Gwire_Writer} (h : dec66 x = some a) : ∃ x0 x1, x = .agg [x0, x1] ∧ dec4 x0 = some a.made ∧ dec23 x1 = some a.b := by
  unfold dec66 at h
  split at h
  · rename_i x0 x1
    split at h
    · rename_i a0 h0
      split at h
      · rename_i a1 h1
        cases h
        exact ⟨_, _, rfl, h0, h1⟩
      · cases h
    · cases h
  · cases h
theorem law66 : CodAt C 66 := ⟨fun x => by show ((enc4 x.made).cells C ++ ((enc23 x.b).cells C ++ [])) = cel66 x; unfold cel66; exact congr (congrArg (· ++ ·) (law4.cel x.made)) (congr (congrArg (· ++ ·) (law23.cel x.b)) (rfl)), fun x => by show ((cel4 x.made ++ (cel23 x.b ++ []))).length = 2; rw [List.length_append, List.length_append]; have e0 : (cel4 x.made).length = 1 := law4.len x.made; have e1 : (cel23 x.b).length = 1 := law23.len x.b; simp only [e0, e1, List.length_nil], fun x a h => by obtain ⟨x0, x1, rfl, h0, h1⟩ := decx66 (show dec66 x = some a from h); exact CW.append (law4.dec _ _ h0) (CW.append (law23.dec _ _ h1) (CW.refl [])), fun x => by show (((enc4 x.made).ok && ((enc23 x.b).ok && true))) = true; simp only [show (enc4 x.made).ok = true from law4.ok _, show (enc23 x.b).ok = true from law23.ok _, Bool.and_self], fun x a h => by obtain ⟨x0, x1, rfl, h0, h1⟩ := decx66 (show dec66 x = some a from h); show ((x0.ok && (x1.ok && true))) = true; simp only [law4.decok _ _ h0, law23.decok _ _ h1, Bool.and_self], fun x a h => by obtain ⟨x0, x1, rfl, h0, h1⟩ := decx66 (show dec66 x = some a from h); rfl, fun x => by show ((cel4 x.made ++ (cel23 x.b ++ []))).all AV.one = true; simp only [List.all_append, List.all_nil, show (cel4 x.made).all AV.one = true from law4.one _, show (cel23 x.b).all AV.one = true from law23.one _, Bool.and_self], fun x => noids_app (law4.noid x.made) (noids_app (law23.noid x.b) (trivial)), (fun ks h => nomatch h), (fun l s h => nomatch h), (fun s l h => nomatch h)⟩
theorem law72 : CodAt C 72 := ⟨fun x => rfl, fun x => rfl, fun x a h => by rw [dInt_x (show dInt .u64 x = some a from h)]; exact .refl _, fun x => rfl, fun x a h => by rw [dInt_x (show dInt .u64 x = some a from h)]; rfl, fun x a h => by rw [dInt_x (show dInt .u64 x = some a from h)]; rfl, fun a => rfl, fun a => noids_one (NoId.v _), fun ks h a b => by cases h; simp [eqCells, scal, C, celT, cel72, beqT, beq72], (fun l s h => nomatch h), (fun s l h => nomatch h)⟩
theorem law80 : CodAt C 80 := ⟨fun x => rfl, fun x => rfl, fun x a h => by rw [dInt_x (show dInt .u64 x = some a from h)]; exact .refl _, fun x => rfl, fun x a h => by rw [dInt_x (show dInt .u64 x = some a from h)]; rfl, fun x a h => by rw [dInt_x (show dInt .u64 x = some a from h)]; rfl, fun a => rfl, fun a => noids_one (NoId.v _), fun ks h a b => by cases h; simp [eqCells, scal, C, celT, cel80, beqT, beq80], (fun l s h => nomatch h), (fun s l h => nomatch h)⟩
theorem lawX {t : Nat} (h : celT t = fun _ => []) (h1 : encT t = fun _ => .agg []) (h2 : decT t = fun _ => none) (h3 : szT t = 0) (h4 : kdT t = none) (h5 : b2sT t = fun _ => none) (h6 : s2bT t = fun _ => none) : CodAt C t := by
  refine ⟨fun x => ?_, fun x => ?_, fun x a hx => ?_, fun x => ?_, fun x a hx => ?_, fun x a hx => ?_, fun a => ?_, fun a => ?_, fun ks hk => ?_, fun l s hl => ?_, fun s l hl => ?_⟩
  · show (encT t x).cells C = celT t x; rw [h, h1]; rfl
  · show (celT t x).length = szT t; rw [h, h3]; rfl
  · have e : decT t x = some a := hx; rw [h2] at e; cases e
  · show (encT t x).ok = true; rw [h1]; rfl
  · have e : decT t x = some a := hx; rw [h2] at e; cases e
  · have e : decT t x = some a := hx; rw [h2] at e; cases e
  · show (celT t a).all AV.one = true; rw [h]; rfl
  · show NoIds (celT t a); rw [h]; trivial
  · have e : kdT t = some ks := hk; rw [h4] at e; cases e
  · have e : b2sT t l = some s := hl; rw [h5] at e; cases e
  · have e : s2bT t s = some l := hl; rw [h6] at e; cases e
theorem lawOther : ∀ t : Nat, t ≠ 2 → t ≠ 3 → t ≠ 4 → t ≠ 5 → t ≠ 9 → t ≠ 12 → t ≠ 21 → t ≠ 22 → t ≠ 23 → t ≠ 25 → t ≠ 29 → t ≠ 32 → t ≠ 33 → t ≠ 34 → t ≠ 41 → t ≠ 50 → t ≠ 51 → t ≠ 62 → t ≠ 63 → t ≠ 66 → t ≠ 72 → t ≠ 80 → CodAt C t
  | t, h2, h3, h4, h5, h9, h12, h21, h22, h23, h25, h29, h32, h33, h34, h41, h50, h51, h62, h63, h66, h72, h80 => by
    apply lawX <;> first
      | (unfold celT; split <;> first | rfl | contradiction | (exfalso; omega))
      | (unfold encT; split <;> first | rfl | contradiction | (exfalso; omega))
      | (unfold decT; split <;> first | rfl | contradiction | (exfalso; omega))
      | (unfold szT; split <;> first | rfl | contradiction | (exfalso; omega))
      | (unfold kdT; split <;> first | rfl | contradiction | (exfalso; omega))
      | (unfold b2sT; split <;> first | rfl | contradiction | (exfalso; omega))
      | (unfold s2bT; split <;> first | rfl | contradiction | (exfalso; omega))
theorem cOk : C.Ok := Cod.Ok.of fun t => by
  by_cases h2 : t = 2
  · subst h2; exact law2
  by_cases h3 : t = 3
  · subst h3; exact law3
  by_cases h4 : t = 4
  · subst h4; exact law4
  by_cases h5 : t = 5
  · subst h5; exact law5
  by_cases h9 : t = 9
  · subst h9; exact law9
  by_cases h12 : t = 12
  · subst h12; exact law12
  by_cases h21 : t = 21
  · subst h21; exact law21
  by_cases h22 : t = 22
  · subst h22; exact law22
  by_cases h23 : t = 23
  · subst h23; exact law23
  by_cases h25 : t = 25
  · subst h25; exact law25
  by_cases h29 : t = 29
  · subst h29; exact law29
  by_cases h32 : t = 32
  · subst h32; exact law32
  by_cases h33 : t = 33
  · subst h33; exact law33
  by_cases h34 : t = 34
  · subst h34; exact law34
  by_cases h41 : t = 41
  · subst h41; exact law41
  by_cases h50 : t = 50
  · subst h50; exact law50
  by_cases h51 : t = 51
  · subst h51; exact law51
  by_cases h62 : t = 62
  · subst h62; exact law62
  by_cases h63 : t = 63
  · subst h63; exact law63
  by_cases h66 : t = 66
  · subst h66; exact law66
  by_cases h72 : t = 72
  · subst h72; exact law72
  by_cases h80 : t = 80
  · subst h80; exact law80
  exact lawOther t h2 h3 h4 h5 h9 h12 h21 h22 h23 h25 h29 h32 h33 h34 h41 h50 h51 h62 h63 h66 h72 h80
def zeroT : Nat → Option (TV τ)
  | 1 => some (.nil .func)
  | 2 => some (.int .i64 0)
  | 3 => some (.int .i64 0)
  | 4 => some (.bool false)
  | 5 => some (.int .u8 0)
  | 9 => some (.str [])
  | 12 => some (.int .u64 0)
  | 17 => some (.nil .ptr)
  | 21 => some (.int .i32 0)
  | 22 => some (.nil .slice)
  | 23 => some (.nil .slice)
  | 24 => some (.nil .func)
  | 25 => some (.int .u32 0)
  | 26 => some (.nil .func)
  | 27 => some (.nil .func)
  | 28 => some (.nil .func)
  | 29 => some (.nil .slice)
  | 30 => some (.nil .ptr)
  | 31 => some (.nil .func)
  | 32 => some (.agg [(.int .i64 0), (.int .i64 0), (.nil .slice)])
  | 33 => some (.agg [(.int .i64 0), (.int .i64 0), (.nil .slice)])
  | 34 => some (.int .i64 0)
  | 36 => some (.nil .func)
  | 37 => some (.nil .func)
  | 38 => some (.nil .func)
  | 39 => some (.nil .func)
  | 40 => some (.nil .func)
  | 41 => some (.int .u16 0)
  | 42 => some (.nil .ptr)
  | 43 => some (.nil .func)
  | 45 => some (.nil .func)
  | 46 => some (.nil .func)
  | 48 => some (.nil .func)
  | 49 => some (.nil .func)
  | 50 => some (.agg [(.nil .slice)])
  | 51 => some (.agg [(.nil .slice)])
  | 53 => some (.nil .func)
  | 54 => some (.nil .func)
  | 55 => some (.nil .func)
  | 56 => some (.nil .func)
  | 57 => some (.nil .func)
  | 58 => some (.nil .func)
  | 59 => some (.nil .func)
  | 60 => some (.nil .func)
  | 61 => some (.nil .func)
  | 62 => some (.agg [(.bool false), (.nil .slice)])
  | 63 => some (.agg [(.bool false), (.nil .slice)])
  | 64 => some (.nil .slice)
  | 65 => some (.nil .func)
  | 66 => some (.agg [(.bool false), (.nil .slice)])
  | 67 => some (.nil .slice)
  | 68 => some (.nil .func)
  | 70 => some (.nil .func)
  | 71 => some (.nil .func)
  | 72 => some (.int .u64 0)
  | 73 => some (.nil .func)
  | 75 => some (.nil .func)
  | 76 => some (.nil .ptr)
  | 77 => some (.nil .func)
  | 78 => some (.nil .func)
  | 79 => some (.nil .func)
  | 80 => some (.int .u64 0)
  | 81 => some (.nil .func)
  | 82 => some (.nil .func)
  | 91 => some (.nil .ptr)
  | _ => none
theorem zok1 : ∃ i, E.ty 1 = some i ∧ (.nil .func : TV τ).ok = true ∧ CW i.zero ((.nil .func : TV τ).cells C) ∧ (.nil .func : TV τ).isAgg = i.agg := ⟨ti1, rfl, rfl, CW.of_eq (by kernel_rfl), rfl⟩
theorem zok2 : ∃ i, E.ty 2 = some i ∧ (.int .i64 0 : TV τ).ok = true ∧ CW i.zero ((.int .i64 0 : TV τ).cells C) ∧ (.int .i64 0 : TV τ).isAgg = i.agg := ⟨ti2, rfl, rfl, CW.of_eq (by kernel_rfl), rfl⟩
theorem zok3 : ∃ i, E.ty 3 = some i ∧ (.int .i64 0 : TV τ).ok = true ∧ CW i.zero ((.int .i64 0 : TV τ).cells C) ∧ (.int .i64 0 : TV τ).isAgg = i.agg := ⟨ti3, rfl, rfl, CW.of_eq (by kernel_rfl), rfl⟩
theorem zok4 : ∃ i, E.ty 4 = some i ∧ (.bool false : TV τ).ok = true ∧ CW i.zero ((.bool false : TV τ).cells C) ∧ (.bool false : TV τ).isAgg = i.agg := ⟨ti4, rfl, rfl, CW.of_eq (by kernel_rfl), rfl⟩
theorem zok5 : ∃ i, E.ty 5 = some i ∧ (.int .u8 0 : TV τ).ok = true ∧ CW i.zero ((.int .u8 0 : TV τ).cells C) ∧ (.int .u8 0 : TV τ).isAgg = i.agg := ⟨ti5, rfl, rfl, CW.of_eq (by kernel_rfl), rfl⟩
theorem zok9 : ∃ i, E.ty 9 = some i ∧ (.str [] : TV τ).ok = true ∧ CW i.zero ((.str [] : TV τ).cells C) ∧ (.str [] : TV τ).isAgg = i.agg := ⟨ti9, rfl, rfl, CW.of_eq (by kernel_rfl), rfl⟩
theorem zok12 : ∃ i, E.ty 12 = some i ∧ (.int .u64 0 : TV τ).ok = true ∧ CW i.zero ((.int .u64 0 : TV τ).cells C) ∧ (.int .u64 0 : TV τ).isAgg = i.agg := ⟨ti12, rfl, rfl, CW.of_eq (by kernel_rfl), rfl⟩
theorem zok17 : ∃ i, E.ty 17 = some i ∧ (.nil .ptr : TV τ).ok = true ∧ CW i.zero ((.nil .ptr : TV τ).cells C) ∧ (.nil .ptr : TV τ).isAgg = i.agg := ⟨ti17, rfl, rfl, CW.of_eq (by kernel_rfl), rfl⟩
theorem zok21 : ∃ i, E.ty 21 = some i ∧ (.int .i32 0 : TV τ).ok = true ∧ CW i.zero ((.int .i32 0 : TV τ).cells C) ∧ (.int .i32 0 : TV τ).isAgg = i.agg := ⟨ti21, rfl, rfl, CW.of_eq (by kernel_rfl), rfl⟩
theorem zok22 : ∃ i, E.ty 22 = some i ∧ (.nil .slice : TV τ).ok = true ∧ CW i.zero ((.nil .slice : TV τ).cells C) ∧ (.nil .slice : TV τ).isAgg = i.agg := ⟨ti22, rfl, rfl, CW.of_eq (by kernel_rfl), rfl⟩
theorem zok23 : ∃ i, E.ty 23 = some i ∧ (.nil .slice : TV τ).ok = true ∧ CW i.zero ((.nil .slice : TV τ).cells C) ∧ (.nil .slice : TV τ).isAgg = i.agg := ⟨ti23, rfl, rfl, CW.of_eq (by kernel_rfl), rfl⟩
theorem zok24 : ∃ i, E.ty 24 = some i ∧ (.nil .func : TV τ).ok = true ∧ CW i.zero ((.nil .func : TV τ).cells C) ∧ (.nil .func : TV τ).isAgg = i.agg := ⟨ti24, rfl, rfl, CW.of_eq (by kernel_rfl), rfl⟩
theorem zok25 : ∃ i, E.ty 25 = some i ∧ (.int .u32 0 : TV τ).ok = true ∧ CW i.zero ((.int .u32 0 : TV τ).cells C) ∧ (.int .u32 0 : TV τ).isAgg = i.agg := ⟨ti25, rfl, rfl, CW.of_eq (by kernel_rfl), rfl⟩
theorem zok26 : ∃ i, E.ty 26 = some i ∧ (.nil .func : TV τ).ok = true ∧ CW i.zero ((.nil .func : TV τ).cells C) ∧ (.nil .func : TV τ).isAgg = i.agg := ⟨ti26, rfl, rfl, CW.of_eq (by kernel_rfl), rfl⟩
theorem zok27 : ∃ i, E.ty 27 = some i ∧ (.nil .func : TV τ).ok = true ∧ CW i.zero ((.nil .func : TV τ).cells C) ∧ (.nil .func : TV τ).isAgg = i.agg := ⟨ti27, rfl, rfl, CW.of_eq (by kernel_rfl), rfl⟩
theorem zok28 : ∃ i, E.ty 28 = some i ∧ (.nil .func : TV τ).ok = true ∧ CW i.zero ((.nil .func : TV τ).cells C) ∧ (.nil .func : TV τ).isAgg = i.agg := ⟨ti28, rfl, rfl, CW.of_eq (by kernel_rfl), rfl⟩
theorem zok29 : ∃ i, E.ty 29 = some i ∧ (.nil .slice : TV τ).ok = true ∧ CW i.zero ((.nil .slice : TV τ).cells C) ∧ (.nil .slice : TV τ).isAgg = i.agg := ⟨ti29, rfl, rfl, CW.of_eq (by kernel_rfl), rfl⟩
theorem zok30 : ∃ i, E.ty 30 = some i ∧ (.nil .ptr : TV τ).ok = true ∧ CW i.zero ((.nil .ptr : TV τ).cells C) ∧ (.nil .ptr : TV τ).isAgg = i.agg := ⟨ti30, rfl, rfl, CW.of_eq (by kernel_rfl), rfl⟩
theorem zok31 : ∃ i, E.ty 31 = some i ∧ (.nil .func : TV τ).ok = true ∧ CW i.zero ((.nil .func : TV τ).cells C) ∧ (.nil .func : TV τ).isAgg = i.agg := ⟨ti31, rfl, rfl, CW.of_eq (by kernel_rfl), rfl⟩
theorem zok32 : ∃ i, E.ty 32 = some i ∧ (.agg [(.int .i64 0), (.int .i64 0), (.nil .slice)] : TV τ).ok = true ∧ CW i.zero ((.agg [(.int .i64 0), (.int .i64 0), (.nil .slice)] : TV τ).cells C) ∧ (.agg [(.int .i64 0), (.int .i64 0), (.nil .slice)] : TV τ).isAgg = i.agg := ⟨ti32, rfl, rfl, CW.of_eq (by kernel_rfl), rfl⟩
theorem zok33 : ∃ i, E.ty 33 = some i ∧ (.agg [(.int .i64 0), (.int .i64 0), (.nil .slice)] : TV τ).ok = true ∧ CW i.zero ((.agg [(.int .i64 0), (.int .i64 0), (.nil .slice)] : TV τ).cells C) ∧ (.agg [(.int .i64 0), (.int .i64 0), (.nil .slice)] : TV τ).isAgg = i.agg := ⟨ti33, rfl, rfl, CW.of_eq (by kernel_rfl), rfl⟩
theorem zok34 : ∃ i, E.ty 34 = some i ∧ (.int .i64 0 : TV τ).ok = true ∧ CW i.zero ((.int .i64 0 : TV τ).cells C) ∧ (.int .i64 0 : TV τ).isAgg = i.agg := ⟨ti34, rfl, rfl, CW.of_eq (by kernel_rfl), rfl⟩
theorem zok36 : ∃ i, E.ty 36 = some i ∧ (.nil .func : TV τ).ok = true ∧ CW i.zero ((.nil .func : TV τ).cells C) ∧ (.nil .func : TV τ).isAgg = i.agg := ⟨ti36, rfl, rfl, CW.of_eq (by kernel_rfl), rfl⟩
theorem zok37 : ∃ i, E.ty 37 = some i ∧ (.nil .func : TV τ).ok = true ∧ CW i.zero ((.nil .func : TV τ).cells C) ∧ (.nil .func : TV τ).isAgg = i.agg := ⟨ti37, rfl, rfl, CW.of_eq (by kernel_rfl), rfl⟩
theorem zok38 : ∃ i, E.ty 38 = some i ∧ (.nil .func : TV τ).ok = true ∧ CW i.zero ((.nil .func : TV τ).cells C) ∧ (.nil .func : TV τ).isAgg = i.agg := ⟨ti38, rfl, rfl, CW.of_eq (by kernel_rfl), rfl⟩
theorem zok39 : ∃ i, E.ty 39 = some i ∧ (.nil .func : TV τ).ok = true ∧ CW i.zero ((.nil .func : TV τ).cells C) ∧ (.nil .func : TV τ).isAgg = i.agg := ⟨ti39, rfl, rfl, CW.of_eq (by kernel_rfl), rfl⟩
theorem zok40 : ∃ i, E.ty 40 = some i ∧ (.nil .func : TV τ).ok = true ∧ CW i.zero ((.nil .func : TV τ).cells C) ∧ (.nil .func : TV τ).isAgg = i.agg := ⟨ti40, rfl, rfl, CW.of_eq (by kernel_rfl), rfl⟩
theorem zok41 : ∃ i, E.ty 41 = some i ∧ (.int .u16 0 : TV τ).ok = true ∧ CW i.zero ((.int .u16 0 : TV τ).cells C) ∧ (.int .u16 0 : TV τ).isAgg = i.agg := ⟨ti41, rfl, rfl, CW.of_eq (by kernel_rfl), rfl⟩
theorem zok42 : ∃ i, E.ty 42 = some i ∧ (.nil .ptr : TV τ).ok = true ∧ CW i.zero ((.nil .ptr : TV τ).cells C) ∧ (.nil .ptr : TV τ).isAgg = i.agg := ⟨ti42, rfl, rfl, CW.of_eq (by kernel_rfl), rfl⟩
theorem zok43 : ∃ i, E.ty 43 = some i ∧ (.nil .func : TV τ).ok = true ∧ CW i.zero ((.nil .func : TV τ).cells C) ∧ (.nil .func : TV τ).isAgg = i.agg := ⟨ti43, rfl, rfl, CW.of_eq (by kernel_rfl), rfl⟩
theorem zok45 : ∃ i, E.ty 45 = some i ∧ (.nil .func : TV τ).ok = true ∧ CW i.zero ((.nil .func : TV τ).cells C) ∧ (.nil .func : TV τ).isAgg = i.agg := ⟨ti45, rfl, rfl, CW.of_eq (by kernel_rfl), rfl⟩
theorem zok46 : ∃ i, E.ty 46 = some i ∧ (.nil .func : TV τ).ok = true ∧ CW i.zero ((.nil .func : TV τ).cells C) ∧ (.nil .func : TV τ).isAgg = i.agg := ⟨ti46, rfl, rfl, CW.of_eq (by kernel_rfl), rfl⟩
theorem zok48 : ∃ i, E.ty 48 = some i ∧ (.nil .func : TV τ).ok = true ∧ CW i.zero ((.nil .func : TV τ).cells C) ∧ (.nil .func : TV τ).isAgg = i.agg := ⟨ti48, rfl, rfl, CW.of_eq (by kernel_rfl), rfl⟩
theorem zok49 : ∃ i, E.ty 49 = some i ∧ (.nil .func : TV τ).ok = true ∧ CW i.zero ((.nil .func : TV τ).cells C) ∧ (.nil .func : TV τ).isAgg = i.agg := ⟨ti49, rfl, rfl, CW.of_eq (by kernel_rfl), rfl⟩
theorem zok50 : ∃ i, E.ty 50 = some i ∧ (.agg [(.nil .slice)] : TV τ).ok = true ∧ CW i.zero ((.agg [(.nil .slice)] : TV τ).cells C) ∧ (.agg [(.nil .slice)] : TV τ).isAgg = i.agg := ⟨ti50, rfl, rfl, CW.of_eq (by kernel_rfl), rfl⟩
theorem zok51 : ∃ i, E.ty 51 = some i ∧ (.agg [(.nil .slice)] : TV τ).ok = true ∧ CW i.zero ((.agg [(.nil .slice)] : TV τ).cells C) ∧ (.agg [(.nil .slice)] : TV τ).isAgg = i.agg := ⟨ti51, rfl, rfl, CW.of_eq (by kernel_rfl), rfl⟩
theorem zok53 : ∃ i, E.ty 53 = some i ∧ (.nil .func : TV τ).ok = true ∧ CW i.zero ((.nil .func : TV τ).cells C) ∧ (.nil .func : TV τ).isAgg = i.agg := ⟨ti53, rfl, rfl, CW.of_eq (by kernel_rfl), rfl⟩
theorem zok54 : ∃ i, E.ty 54 = some i ∧ (.nil .func : TV τ).ok = true ∧ CW i.zero ((.nil .func : TV τ).cells C) ∧ (.nil .func : TV τ).isAgg = i.agg := ⟨ti54, rfl, rfl, CW.of_eq (by kernel_rfl), rfl⟩
theorem zok55 : ∃ i, E.ty 55 = some i ∧ (.nil .func : TV τ).ok = true ∧ CW i.zero ((.nil .func : TV τ).cells C) ∧ (.nil .func : TV τ).isAgg = i.agg := ⟨ti55, rfl, rfl, CW.of_eq (by kernel_rfl), rfl⟩
theorem zok56 : ∃ i, E.ty 56 = some i ∧ (.nil .func : TV τ).ok = true ∧ CW i.zero ((.nil .func : TV τ).cells C) ∧ (.nil .func : TV τ).isAgg = i.agg := ⟨ti56, rfl, rfl, CW.of_eq (by kernel_rfl), rfl⟩
theorem zok57 : ∃ i, E.ty 57 = some i ∧ (.nil .func : TV τ).ok = true ∧ CW i.zero ((.nil .func : TV τ).cells C) ∧ (.nil .func : TV τ).isAgg = i.agg := ⟨ti57, rfl, rfl, CW.of_eq (by kernel_rfl), rfl⟩
theorem zok58 : ∃ i, E.ty 58 = some i ∧ (.nil .func : TV τ).ok = true ∧ CW i.zero ((.nil .func : TV τ).cells C) ∧ (.nil .func : TV τ).isAgg = i.agg := ⟨ti58, rfl, rfl, CW.of_eq (by kernel_rfl), rfl⟩
theorem zok59 : ∃ i, E.ty 59 = some i ∧ (.nil .func : TV τ).ok = true ∧ CW i.zero ((.nil .func : TV τ).cells C) ∧ (.nil .func : TV τ).isAgg = i.agg := ⟨ti59, rfl, rfl, CW.of_eq (by kernel_rfl), rfl⟩
theorem zok60 : ∃ i, E.ty 60 = some i ∧ (.nil .func : TV τ).ok = true ∧ CW i.zero ((.nil .func : TV τ).cells C) ∧ (.nil .func : TV τ).isAgg = i.agg := ⟨ti60, rfl, rfl, CW.of_eq (by kernel_rfl), rfl⟩
theorem zok61 : ∃ i, E.ty 61 = some i ∧ (.nil .func : TV τ).ok = true ∧ CW i.zero ((.nil .func : TV τ).cells C) ∧ (.nil .func : TV τ).isAgg = i.agg := ⟨ti61, rfl, rfl, CW.of_eq (by kernel_rfl), rfl⟩
theorem zok62 : ∃ i, E.ty 62 = some i ∧ (.agg [(.bool false), (.nil .slice)] : TV τ).ok = true ∧ CW i.zero ((.agg [(.bool false), (.nil .slice)] : TV τ).cells C) ∧ (.agg [(.bool false), (.nil .slice)] : TV τ).isAgg = i.agg := ⟨ti62, rfl, rfl, CW.of_eq (by kernel_rfl), rfl⟩
theorem zok63 : ∃ i, E.ty 63 = some i ∧ (.agg [(.bool false), (.nil .slice)] : TV τ).ok = true ∧ CW i.zero ((.agg [(.bool false), (.nil .slice)] : TV τ).cells C) ∧ (.agg [(.bool false), (.nil .slice)] : TV τ).isAgg = i.agg := ⟨ti63, rfl, rfl, CW.of_eq (by kernel_rfl), rfl⟩
theorem zok64 : ∃ i, E.ty 64 = some i ∧ (.nil .slice : TV τ).ok = true ∧ CW i.zero ((.nil .slice : TV τ).cells C) ∧ (.nil .slice : TV τ).isAgg = i.agg := ⟨ti64, rfl, rfl, CW.of_eq (by kernel_rfl), rfl⟩
theorem zok65 : ∃ i, E.ty 65 = some i ∧ (.nil .func : TV τ).ok = true ∧ CW i.zero ((.nil .func : TV τ).cells C) ∧ (.nil .func : TV τ).isAgg = i.agg := ⟨ti65, rfl, rfl, CW.of_eq (by kernel_rfl), rfl⟩
theorem zok66 : ∃ i, E.ty 66 = some i ∧ (.agg [(.bool false), (.nil .slice)] : TV τ).ok = true ∧ CW i.zero ((.agg [(.bool false), (.nil .slice)] : TV τ).cells C) ∧ (.agg [(.bool false), (.nil .slice)] : TV τ).isAgg = i.agg := ⟨ti66, rfl, rfl, CW.of_eq (by kernel_rfl), rfl⟩
theorem zok67 : ∃ i, E.ty 67 = some i ∧ (.nil .slice : TV τ).ok = true ∧ CW i.zero ((.nil .slice : TV τ).cells C) ∧ (.nil .slice : TV τ).isAgg = i.agg := ⟨ti67, rfl, rfl, CW.of_eq (by kernel_rfl), rfl⟩
theorem zok68 : ∃ i, E.ty 68 = some i ∧ (.nil .func : TV τ).ok = true ∧ CW i.zero ((.nil .func : TV τ).cells C) ∧ (.nil .func : TV τ).isAgg = i.agg := ⟨ti68, rfl, rfl, CW.of_eq (by kernel_rfl), rfl⟩
theorem zok70 : ∃ i, E.ty 70 = some i ∧ (.nil .func : TV τ).ok = true ∧ CW i.zero ((.nil .func : TV τ).cells C) ∧ (.nil .func : TV τ).isAgg = i.agg := ⟨ti70, rfl, rfl, CW.of_eq (by kernel_rfl), rfl⟩
theorem zok71 : ∃ i, E.ty 71 = some i ∧ (.nil .func : TV τ).ok = true ∧ CW i.zero ((.nil .func : TV τ).cells C) ∧ (.nil .func : TV τ).isAgg = i.agg := ⟨ti71, rfl, rfl, CW.of_eq (by kernel_rfl), rfl⟩
theorem zok72 : ∃ i, E.ty 72 = some i ∧ (.int .u64 0 : TV τ).ok = true ∧ CW i.zero ((.int .u64 0 : TV τ).cells C) ∧ (.int .u64 0 : TV τ).isAgg = i.agg := ⟨ti72, rfl, rfl, CW.of_eq (by kernel_rfl), rfl⟩
theorem zok73 : ∃ i, E.ty 73 = some i ∧ (.nil .func : TV τ).ok = true ∧ CW i.zero ((.nil .func : TV τ).cells C) ∧ (.nil .func : TV τ).isAgg = i.agg := ⟨ti73, rfl, rfl, CW.of_eq (by kernel_rfl), rfl⟩
theorem zok75 : ∃ i, E.ty 75 = some i ∧ (.nil .func : TV τ).ok = true ∧ CW i.zero ((.nil .func : TV τ).cells C) ∧ (.nil .func : TV τ).isAgg = i.agg := ⟨ti75, rfl, rfl, CW.of_eq (by kernel_rfl), rfl⟩
theorem zok76 : ∃ i, E.ty 76 = some i ∧ (.nil .ptr : TV τ).ok = true ∧ CW i.zero ((.nil .ptr : TV τ).cells C) ∧ (.nil .ptr : TV τ).isAgg = i.agg := ⟨ti76, rfl, rfl, CW.of_eq (by kernel_rfl), rfl⟩
theorem zok77 : ∃ i, E.ty 77 = some i ∧ (.nil .func : TV τ).ok = true ∧ CW i.zero ((.nil .func : TV τ).cells C) ∧ (.nil .func : TV τ).isAgg = i.agg := ⟨ti77, rfl, rfl, CW.of_eq (by kernel_rfl), rfl⟩
theorem zok78 : ∃ i, E.ty 78 = some i ∧ (.nil .func : TV τ).ok = true ∧ CW i.zero ((.nil .func : TV τ).cells C) ∧ (.nil .func : TV τ).isAgg = i.agg := ⟨ti78, rfl, rfl, CW.of_eq (by kernel_rfl), rfl⟩
theorem zok79 : ∃ i, E.ty 79 = some i ∧ (.nil .func : TV τ).ok = true ∧ CW i.zero ((.nil .func : TV τ).cells C) ∧ (.nil .func : TV τ).isAgg = i.agg := ⟨ti79, rfl, rfl, CW.of_eq (by kernel_rfl), rfl⟩
theorem zok80 : ∃ i, E.ty 80 = some i ∧ (.int .u64 0 : TV τ).ok = true ∧ CW i.zero ((.int .u64 0 : TV τ).cells C) ∧ (.int .u64 0 : TV τ).isAgg = i.agg := ⟨ti80, rfl, rfl, CW.of_eq (by kernel_rfl), rfl⟩
theorem zok81 : ∃ i, E.ty 81 = some i ∧ (.nil .func : TV τ).ok = true ∧ CW i.zero ((.nil .func : TV τ).cells C) ∧ (.nil .func : TV τ).isAgg = i.agg := ⟨ti81, rfl, rfl, CW.of_eq (by kernel_rfl), rfl⟩
theorem zok82 : ∃ i, E.ty 82 = some i ∧ (.nil .func : TV τ).ok = true ∧ CW i.zero ((.nil .func : TV τ).cells C) ∧ (.nil .func : TV τ).isAgg = i.agg := ⟨ti82, rfl, rfl, CW.of_eq (by kernel_rfl), rfl⟩
theorem zok91 : ∃ i, E.ty 91 = some i ∧ (.nil .ptr : TV τ).ok = true ∧ CW i.zero ((.nil .ptr : TV τ).cells C) ∧ (.nil .ptr : TV τ).isAgg = i.agg := ⟨ti91, rfl, rfl, CW.of_eq (by kernel_rfl), rfl⟩
noncomputable def D0 : TEnv τ := ⟨E, C, zeroT⟩
theorem zeroOk : ∀ t x, zeroT t = some x → ∃ i, E.ty t = some i ∧ x.ok = true ∧ CW i.zero (x.cells C) ∧ x.isAgg = i.agg := by
  intro t x h
  unfold zeroT at h
  split at h <;> first
    | (cases h; first | exact zok1 | exact zok2 | exact zok3 | exact zok4 | exact zok5 | exact zok9 | exact zok12 | exact zok17 | exact zok21 | exact zok22 | exact zok23 | exact zok24 | exact zok25 | exact zok26 | exact zok27 | exact zok28 | exact zok29 | exact zok30 | exact zok31 | exact zok32 | exact zok33 | exact zok34 | exact zok36 | exact zok37 | exact zok38 | exact zok39 | exact zok40 | exact zok41 | exact zok42 | exact zok43 | exact zok45 | exact zok46 | exact zok48 | exact zok49 | exact zok50 | exact zok51 | exact zok53 | exact zok54 | exact zok55 | exact zok56 | exact zok57 | exact zok58 | exact zok59 | exact zok60 | exact zok61 | exact zok62 | exact zok63 | exact zok64 | exact zok65 | exact zok66 | exact zok67 | exact zok68 | exact zok70 | exact zok71 | exact zok72 | exact zok73 | exact zok75 | exact zok76 | exact zok77 | exact zok78 | exact zok79 | exact zok80 | exact zok81 | exact zok82 | exact zok91)
    | cases h
theorem d0Ok : D0.Ok := ⟨eOk, eEq, cOk, zeroOk⟩
end Go.Proofs.Yticlnhhaaidmaaa
