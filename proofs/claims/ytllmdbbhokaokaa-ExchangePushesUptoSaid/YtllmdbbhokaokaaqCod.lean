/-
The types of this seat's program, as the evaluator asks them, and how their data are told. Written by wip/tools/gen2.py.
-/
import Derived.Test.YtllmdbbhokaokaaProg
import Derived.Test.YtllmdbbhokaokaaqTvR
import Derived.KernelRfl
set_option linter.unusedVariables false
set_option linter.unusedSimpArgs false
set_option maxHeartbeats 8000000
set_option maxRecDepth 100000
namespace Go.Proofs.Ytllmdbbhokaokaa
open Go Go.Ev
def fd (n : String) (t o b : Nat) : Field := ⟨n, t, o, false, "", "", b⟩
def wi : Value := .int .i64 0
def wn : Value := .slice none 0 0
def wz : Value := .string ⟨#[]⟩
theorem app_eq {a a' b b' : List AV} (h : a = a') (h' : b = b') : a ++ b = a' ++ b' := h ▸ h' ▸ rfl
theorem len_app {a b : List AV} {m n : Nat} (h : a.length = m) (h' : b.length = n) : (a ++ b).length = m + n := by rw [List.length_append, h, h']
theorem ok_t : true = true := rfl
theorem ok_and {a b : Bool} (h : a = true) (h' : b = true) : (a && b) = true := by rw [h, h']; rfl
theorem all_app {a b : List AV} (h : a.all AV.one = true) (h' : b.all AV.one = true) : (a ++ b).all AV.one = true := by rw [List.all_append, h, h']; rfl
def ti2 : TI := ⟨.int .i64, 1, 8, [.v wi]⟩
def ti3 : TI := ⟨.int .i64, 1, 8, [.v wi]⟩
def ti4 : TI := ⟨.bool, 1, 1, [.v (.bool false)]⟩
def ti5 : TI := ⟨.int .u8, 1, 1, [.v (.int .u8 0)]⟩
def ti9 : TI := ⟨.string, 1, 16, [.v wz]⟩
def ti12 : TI := ⟨.int .u64, 1, 8, [.v (.int .u64 0)]⟩
def ti21 : TI := ⟨.int .i32, 1, 4, [.v (.int .i32 0)]⟩
def ti22 : TI := ⟨.array 8 3, 8, 64, [.v wi, .v wi, .v wi, .v wi, .v wi, .v wi, .v wi, .v wi]⟩
def ti23 : TI := ⟨.array 8 2, 8, 64, [.v wi, .v wi, .v wi, .v wi, .v wi, .v wi, .v wi, .v wi]⟩
def ti24 : TI := ⟨.array 8 2, 8, 64, [.v wi, .v wi, .v wi, .v wi, .v wi, .v wi, .v wi, .v wi]⟩
def ti25 : TI := ⟨.struct #[fd "Number" 2 0 0, fd "States" 22 1 8, fd "Seals" 24 9 72, fd "Sponsor" 22 17 136], 25, 200, [.v wi, .v wi, .v wi, .v wi, .v wi, .v wi, .v wi, .v wi, .v wi, .v wi, .v wi, .v wi, .v wi, .v wi, .v wi, .v wi, .v wi, .v wi, .v wi, .v wi, .v wi, .v wi, .v wi, .v wi, .v wi]⟩
def ti26 : TI := ti25
def ti27 : TI := ⟨.slice 115, 1, 24, [.v wn]⟩
def ti28 : TI := ⟨.slice 49, 1, 24, [.v wn]⟩
def ti29 : TI := ⟨.array 8 28, 8, 192, [.v wn, .v wn, .v wn, .v wn, .v wn, .v wn, .v wn, .v wn]⟩
def ti30 : TI := ⟨.array 8 24, 64, 512, [.v wi, .v wi, .v wi, .v wi, .v wi, .v wi, .v wi, .v wi, .v wi, .v wi, .v wi, .v wi, .v wi, .v wi, .v wi, .v wi, .v wi, .v wi, .v wi, .v wi, .v wi, .v wi, .v wi, .v wi, .v wi, .v wi, .v wi, .v wi, .v wi, .v wi, .v wi, .v wi, .v wi, .v wi, .v wi, .v wi, .v wi, .v wi, .v wi, .v wi, .v wi, .v wi, .v wi, .v wi, .v wi, .v wi, .v wi, .v wi, .v wi, .v wi, .v wi, .v wi, .v wi, .v wi, .v wi, .v wi, .v wi, .v wi, .v wi, .v wi, .v wi, .v wi, .v wi, .v wi]⟩
def ti31 : TI := ⟨.slice 119, 1, 24, [.v wn]⟩
def ti32 : TI := ⟨.slice 52, 1, 24, [.v wn]⟩
def ti33 : TI := ⟨.struct #[fd "Site" 3 0 0, fd "Applied" 2 1 8, fd "Booted" 4 2 16, fd "Epoch" 26 3 24, fd "Clock" 2 28 224, fd "Vector" 24 29 232, fd "Last" 24 37 296, fd "Base" 27 45 360, fd "Log" 28 46 384, fd "Frontier" 2 47 408, fd "Starts" 24 48 416, fd "Kept" 29 56 480, fd "Known" 30 64 672, fd "Told" 24 128 1184, fd "Clocks" 24 136 1248, fd "Sure" 24 144 1312, fd "Rows" 31 152 1376, fd "Parts" 32 153 1400], 154, 1424, [.v wi, .v wi, .v (.bool false), .v wi, .v wi, .v wi, .v wi, .v wi, .v wi, .v wi, .v wi, .v wi, .v wi, .v wi, .v wi, .v wi, .v wi, .v wi, .v wi, .v wi, .v wi, .v wi, .v wi, .v wi, .v wi, .v wi, .v wi, .v wi, .v wi, .v wi, .v wi, .v wi, .v wi, .v wi, .v wi, .v wi, .v wi, .v wi, .v wi, .v wi, .v wi, .v wi, .v wi, .v wi, .v wi, .v wn, .v wn, .v wi, .v wi, .v wi, .v wi, .v wi, .v wi, .v wi, .v wi, .v wi, .v wn, .v wn, .v wn, .v wn, .v wn, .v wn, .v wn, .v wn, .v wi, .v wi, .v wi, .v wi, .v wi, .v wi, .v wi, .v wi, .v wi, .v wi, .v wi, .v wi, .v wi, .v wi, .v wi, .v wi, .v wi, .v wi, .v wi, .v wi, .v wi, .v wi, .v wi, .v wi, .v wi, .v wi, .v wi, .v wi, .v wi, .v wi, .v wi, .v wi, .v wi, .v wi, .v wi, .v wi, .v wi, .v wi, .v wi, .v wi, .v wi, .v wi, .v wi, .v wi, .v wi, .v wi, .v wi, .v wi, .v wi, .v wi, .v wi, .v wi, .v wi, .v wi, .v wi, .v wi, .v wi, .v wi, .v wi, .v wi, .v wi, .v wi, .v wi, .v wi, .v wi, .v wi, .v wi, .v wi, .v wi, .v wi, .v wi, .v wi, .v wi, .v wi, .v wi, .v wi, .v wi, .v wi, .v wi, .v wi, .v wi, .v wi, .v wi, .v wi, .v wi, .v wi, .v wi, .v wi, .v wn, .v wn]⟩
def ti34 : TI := ti33
def ti35 : TI := ⟨.struct #[fd "Group" 3 0 0, fd "Replica" 3 1 8], 2, 16, [.v wi, .v wi]⟩
def ti36 : TI := ti35
def ti38 : TI := ⟨.slice 56, 1, 24, [.v wn]⟩
def ti44 : TI := ⟨.struct #[fd "Round" 2 0 0, fd "Replica" 3 1 8], 2, 16, [.v wi, .v wi]⟩
def ti45 : TI := ⟨.slice 81, 1, 24, [.v wn]⟩
def ti47 : TI := ⟨.struct #[fd "Time" 2 0 0, fd "Site" 3 1 8], 2, 16, [.v wi, .v wi]⟩
def ti49 : TI := ⟨.struct #[fd "Stamp" 47 0 0, fd "Kind" 3 2 16, fd "Node" 2 3 24, fd "Parent" 2 4 32, fd "Name" 9 5 40, fd "Key" 9 6 56, fd "Value" 9 7 72], 8, 88, [.v wi, .v wi, .v wi, .v wi, .v wi, .v wz, .v wz, .v wz]⟩
def ti50 : TI := ⟨.slice 5, 1, 24, [.v wn]⟩
def ti52 : TI := ⟨.struct #[fd "Snap" 2 0 0, fd "Index" 3 1 8, fd "Many" 3 2 16, fd "Data" 50 3 24], 4, 48, [.v wi, .v wi, .v wi, .v wn]⟩
def ti54 : TI := ⟨.struct #[fd "Kind" 3 0 0, fd "Session" 2 1 8, fd "Request" 2 2 16, fd "Op" 49 3 24, fd "Origin" 3 11 112, fd "Seq" 2 12 120, fd "Ops" 28 13 128, fd "Epoch" 26 14 152, fd "From" 3 39 352, fd "Vector" 24 40 360, fd "Clock" 2 48 424, fd "Part" 52 49 432, fd "Site" 3 53 480, fd "Sponsor" 3 54 488, fd "Length" 2 55 496], 56, 504, [.v wi, .v wi, .v wi, .v wi, .v wi, .v wi, .v wi, .v wi, .v wz, .v wz, .v wz, .v wi, .v wi, .v wn, .v wi, .v wi, .v wi, .v wi, .v wi, .v wi, .v wi, .v wi, .v wi, .v wi, .v wi, .v wi, .v wi, .v wi, .v wi, .v wi, .v wi, .v wi, .v wi, .v wi, .v wi, .v wi, .v wi, .v wi, .v wi, .v wi, .v wi, .v wi, .v wi, .v wi, .v wi, .v wi, .v wi, .v wi, .v wi, .v wi, .v wi, .v wi, .v wn, .v wi, .v wi, .v wi]⟩
def ti55 : TI := ⟨.struct #[fd "Kind" 3 0 0, fd "From" 36 1 8, fd "To" 36 3 24, fd "Ballot" 44 5 40, fd "Slot" 2 7 56, fd "List" 45 8 64, fd "Entry" 54 9 88, fd "Number" 2 65 592, fd "Vector" 24 66 600, fd "Clock" 2 74 664, fd "Origin" 3 75 672, fd "Ops" 28 76 680, fd "Epoch" 26 77 704, fd "Part" 52 102 904], 106, 952, [.v wi, .v wi, .v wi, .v wi, .v wi, .v wi, .v wi, .v wi, .v wn, .v wi, .v wi, .v wi, .v wi, .v wi, .v wi, .v wi, .v wi, .v wz, .v wz, .v wz, .v wi, .v wi, .v wn, .v wi, .v wi, .v wi, .v wi, .v wi, .v wi, .v wi, .v wi, .v wi, .v wi, .v wi, .v wi, .v wi, .v wi, .v wi, .v wi, .v wi, .v wi, .v wi, .v wi, .v wi, .v wi, .v wi, .v wi, .v wi, .v wi, .v wi, .v wi, .v wi, .v wi, .v wi, .v wi, .v wi, .v wi, .v wi, .v wi, .v wi, .v wi, .v wn, .v wi, .v wi, .v wi, .v wi, .v wi, .v wi, .v wi, .v wi, .v wi, .v wi, .v wi, .v wi, .v wi, .v wi, .v wn, .v wi, .v wi, .v wi, .v wi, .v wi, .v wi, .v wi, .v wi, .v wi, .v wi, .v wi, .v wi, .v wi, .v wi, .v wi, .v wi, .v wi, .v wi, .v wi, .v wi, .v wi, .v wi, .v wi, .v wi, .v wi, .v wi, .v wi, .v wi, .v wn]⟩
def ti56 : TI := ti55
def ti59 : TI := ⟨.slice 3, 1, 24, [.v wn]⟩
def ti74 : TI := ⟨.int .i64, 1, 8, [.v wi]⟩
def ti76 : TI := ⟨.slice 36, 1, 24, [.v wn]⟩
def ti81 : TI := ⟨.struct #[fd "Slot" 2 0 0, fd "Ballot" 44 1 8, fd "Entry" 54 3 24], 59, 528, [.v wi, .v wi, .v wi, .v wi, .v wi, .v wi, .v wi, .v wi, .v wi, .v wi, .v wi, .v wz, .v wz, .v wz, .v wi, .v wi, .v wn, .v wi, .v wi, .v wi, .v wi, .v wi, .v wi, .v wi, .v wi, .v wi, .v wi, .v wi, .v wi, .v wi, .v wi, .v wi, .v wi, .v wi, .v wi, .v wi, .v wi, .v wi, .v wi, .v wi, .v wi, .v wi, .v wi, .v wi, .v wi, .v wi, .v wi, .v wi, .v wi, .v wi, .v wi, .v wi, .v wi, .v wi, .v wi, .v wn, .v wi, .v wi, .v wi]⟩
def ti113 : TI := ⟨.slice 122, 1, 24, [.v wn]⟩
def ti115 : TI := ⟨.struct #[fd "Node" 2 0 0, fd "Parent" 2 1 8, fd "Name" 9 2 16, fd "Attrs" 113 3 32], 4, 56, [.v wi, .v wi, .v wz, .v wn]⟩
def ti117 : TI := ⟨.struct #[fd "Err" 74 0 0, fd "Stamp" 47 1 8, fd "Node" 2 3 24], 4, 32, [.v wi, .v wi, .v wi, .v wi]⟩
def ti119 : TI := ⟨.struct #[fd "Session" 2 0 0, fd "Request" 2 1 8, fd "Reply" 117 2 16], 6, 48, [.v wi, .v wi, .v wi, .v wi, .v wi, .v wi]⟩
def ti122 : TI := ⟨.struct #[fd "Key" 9 0 0, fd "Value" 9 1 16], 2, 32, [.v wz, .v wz]⟩
def tyT : Nat → Option TI
  | 2 => some ti2
  | 3 => some ti3
  | 4 => some ti4
  | 5 => some ti5
  | 9 => some ti9
  | 12 => some ti12
  | 21 => some ti21
  | 22 => some ti22
  | 23 => some ti23
  | 24 => some ti24
  | 25 => some ti25
  | 26 => some ti26
  | 27 => some ti27
  | 28 => some ti28
  | 29 => some ti29
  | 30 => some ti30
  | 31 => some ti31
  | 32 => some ti32
  | 33 => some ti33
  | 34 => some ti34
  | 35 => some ti35
  | 36 => some ti36
  | 38 => some ti38
  | 44 => some ti44
  | 45 => some ti45
  | 47 => some ti47
  | 49 => some ti49
  | 50 => some ti50
  | 52 => some ti52
  | 54 => some ti54
  | 55 => some ti55
  | 56 => some ti56
  | 59 => some ti59
  | 74 => some ti74
  | 76 => some ti76
  | 81 => some ti81
  | 113 => some ti113
  | 115 => some ti115
  | 117 => some ti117
  | 119 => some ti119
  | 122 => some ti122
  | _ => none
def eqT : Nat → Option (List Kd)
  | 22 => some [.i, .i, .i, .i, .i, .i, .i, .i]
  | 23 => some [.i, .i, .i, .i, .i, .i, .i, .i]
  | 24 => some [.i, .i, .i, .i, .i, .i, .i, .i]
  | 25 => some [.i, .i, .i, .i, .i, .i, .i, .i, .i, .i, .i, .i, .i, .i, .i, .i, .i, .i, .i, .i, .i, .i, .i, .i, .i]
  | 26 => some [.i, .i, .i, .i, .i, .i, .i, .i, .i, .i, .i, .i, .i, .i, .i, .i, .i, .i, .i, .i, .i, .i, .i, .i, .i]
  | 30 => some [.i, .i, .i, .i, .i, .i, .i, .i, .i, .i, .i, .i, .i, .i, .i, .i, .i, .i, .i, .i, .i, .i, .i, .i, .i, .i, .i, .i, .i, .i, .i, .i, .i, .i, .i, .i, .i, .i, .i, .i, .i, .i, .i, .i, .i, .i, .i, .i, .i, .i, .i, .i, .i, .i, .i, .i, .i, .i, .i, .i, .i, .i, .i, .i]
  | 35 => some [.i, .i]
  | 36 => some [.i, .i]
  | 44 => some [.i, .i]
  | 47 => some [.i, .i]
  | 49 => some [.i, .i, .i, .i, .i, .s, .s, .s]
  | 117 => some [.i, .i, .i, .i]
  | 119 => some [.i, .i, .i, .i, .i, .i]
  | 122 => some [.s, .s]
  | _ => none
noncomputable def E : Env := ⟨Try.prog, tyT, eqT, none⟩
theorem tok2 : TyOk E.P 2 ti2 := tyOkV (z := (.int .i64 0)) (by kernel_rfl) rfl (by kernel_rfl) (by kernel_rfl)
theorem tok3 : TyOk E.P 3 ti3 := tyOkV (z := (.int .i64 0)) (by kernel_rfl) rfl (by kernel_rfl) (by kernel_rfl)
theorem tok4 : TyOk E.P 4 ti4 := tyOkV (z := (.bool false)) (by kernel_rfl) rfl (by kernel_rfl) (by kernel_rfl)
theorem tok5 : TyOk E.P 5 ti5 := tyOkV (z := (.int .u8 0)) (by kernel_rfl) rfl (by kernel_rfl) (by kernel_rfl)
theorem tok9 : TyOk E.P 9 ti9 := tyOkV (z := (.string ⟨#[]⟩)) (by kernel_rfl) rfl (by kernel_rfl) (by kernel_rfl)
theorem tok12 : TyOk E.P 12 ti12 := tyOkV (z := (.int .u64 0)) (by kernel_rfl) rfl (by kernel_rfl) (by kernel_rfl)
theorem tok21 : TyOk E.P 21 ti21 := tyOkV (z := (.int .i32 0)) (by kernel_rfl) rfl (by kernel_rfl) (by kernel_rfl)
theorem tok22 : TyOk E.P 22 ti22 := tyOkV (z := (.agg #[wi, wi, wi, wi, wi, wi, wi, wi])) (by kernel_rfl) rfl (by kernel_rfl) (by kernel_rfl)
theorem tok23 : TyOk E.P 23 ti23 := tyOkV (z := (.agg #[wi, wi, wi, wi, wi, wi, wi, wi])) (by kernel_rfl) rfl (by kernel_rfl) (by kernel_rfl)
theorem tok24 : TyOk E.P 24 ti24 := tyOkV (z := (.agg #[wi, wi, wi, wi, wi, wi, wi, wi])) (by kernel_rfl) rfl (by kernel_rfl) (by kernel_rfl)
theorem tok25 : TyOk E.P 25 ti25 := tyOkV (z := (.agg #[wi, wi, wi, wi, wi, wi, wi, wi, wi, wi, wi, wi, wi, wi, wi, wi, wi, wi, wi, wi, wi, wi, wi, wi, wi])) (by kernel_rfl) rfl (by kernel_rfl) (by kernel_rfl)
theorem tok26 : TyOk E.P 26 ti26 := tyOkV (z := (.agg #[wi, wi, wi, wi, wi, wi, wi, wi, wi, wi, wi, wi, wi, wi, wi, wi, wi, wi, wi, wi, wi, wi, wi, wi, wi])) (by kernel_rfl) rfl (by kernel_rfl) (by kernel_rfl)
theorem tok27 : TyOk E.P 27 ti27 := tyOkV (z := (.slice none 0 0)) (by kernel_rfl) rfl (by kernel_rfl) (by kernel_rfl)
theorem tok28 : TyOk E.P 28 ti28 := tyOkV (z := (.slice none 0 0)) (by kernel_rfl) rfl (by kernel_rfl) (by kernel_rfl)
theorem tok29 : TyOk E.P 29 ti29 := tyOkV (z := (.agg #[wn, wn, wn, wn, wn, wn, wn, wn])) (by kernel_rfl) rfl (by kernel_rfl) (by kernel_rfl)
theorem tok30 : TyOk E.P 30 ti30 := tyOkV (z := (.agg #[wi, wi, wi, wi, wi, wi, wi, wi, wi, wi, wi, wi, wi, wi, wi, wi, wi, wi, wi, wi, wi, wi, wi, wi, wi, wi, wi, wi, wi, wi, wi, wi, wi, wi, wi, wi, wi, wi, wi, wi, wi, wi, wi, wi, wi, wi, wi, wi, wi, wi, wi, wi, wi, wi, wi, wi, wi, wi, wi, wi, wi, wi, wi, wi])) (by kernel_rfl) rfl (by kernel_rfl) (by kernel_rfl)
theorem tok31 : TyOk E.P 31 ti31 := tyOkV (z := (.slice none 0 0)) (by kernel_rfl) rfl (by kernel_rfl) (by kernel_rfl)
theorem tok32 : TyOk E.P 32 ti32 := tyOkV (z := (.slice none 0 0)) (by kernel_rfl) rfl (by kernel_rfl) (by kernel_rfl)
theorem tok33 : TyOk E.P 33 ti33 := tyOkV (z := (.agg #[wi, wi, (.bool false), wi, wi, wi, wi, wi, wi, wi, wi, wi, wi, wi, wi, wi, wi, wi, wi, wi, wi, wi, wi, wi, wi, wi, wi, wi, wi, wi, wi, wi, wi, wi, wi, wi, wi, wi, wi, wi, wi, wi, wi, wi, wi, wn, wn, wi, wi, wi, wi, wi, wi, wi, wi, wi, wn, wn, wn, wn, wn, wn, wn, wn, wi, wi, wi, wi, wi, wi, wi, wi, wi, wi, wi, wi, wi, wi, wi, wi, wi, wi, wi, wi, wi, wi, wi, wi, wi, wi, wi, wi, wi, wi, wi, wi, wi, wi, wi, wi, wi, wi, wi, wi, wi, wi, wi, wi, wi, wi, wi, wi, wi, wi, wi, wi, wi, wi, wi, wi, wi, wi, wi, wi, wi, wi, wi, wi, wi, wi, wi, wi, wi, wi, wi, wi, wi, wi, wi, wi, wi, wi, wi, wi, wi, wi, wi, wi, wi, wi, wi, wi, wn, wn])) (by kernel_rfl) rfl (by kernel_rfl) (by kernel_rfl)
theorem tok34 : TyOk E.P 34 ti34 := tyOkV (z := (.agg #[wi, wi, (.bool false), wi, wi, wi, wi, wi, wi, wi, wi, wi, wi, wi, wi, wi, wi, wi, wi, wi, wi, wi, wi, wi, wi, wi, wi, wi, wi, wi, wi, wi, wi, wi, wi, wi, wi, wi, wi, wi, wi, wi, wi, wi, wi, wn, wn, wi, wi, wi, wi, wi, wi, wi, wi, wi, wn, wn, wn, wn, wn, wn, wn, wn, wi, wi, wi, wi, wi, wi, wi, wi, wi, wi, wi, wi, wi, wi, wi, wi, wi, wi, wi, wi, wi, wi, wi, wi, wi, wi, wi, wi, wi, wi, wi, wi, wi, wi, wi, wi, wi, wi, wi, wi, wi, wi, wi, wi, wi, wi, wi, wi, wi, wi, wi, wi, wi, wi, wi, wi, wi, wi, wi, wi, wi, wi, wi, wi, wi, wi, wi, wi, wi, wi, wi, wi, wi, wi, wi, wi, wi, wi, wi, wi, wi, wi, wi, wi, wi, wi, wi, wi, wn, wn])) (by kernel_rfl) rfl (by kernel_rfl) (by kernel_rfl)
theorem tok35 : TyOk E.P 35 ti35 := tyOkV (z := (.agg #[wi, wi])) (by kernel_rfl) rfl (by kernel_rfl) (by kernel_rfl)
theorem tok36 : TyOk E.P 36 ti36 := tyOkV (z := (.agg #[wi, wi])) (by kernel_rfl) rfl (by kernel_rfl) (by kernel_rfl)
theorem tok38 : TyOk E.P 38 ti38 := tyOkV (z := (.slice none 0 0)) (by kernel_rfl) rfl (by kernel_rfl) (by kernel_rfl)
theorem tok44 : TyOk E.P 44 ti44 := tyOkV (z := (.agg #[wi, wi])) (by kernel_rfl) rfl (by kernel_rfl) (by kernel_rfl)
theorem tok45 : TyOk E.P 45 ti45 := tyOkV (z := (.slice none 0 0)) (by kernel_rfl) rfl (by kernel_rfl) (by kernel_rfl)
theorem tok47 : TyOk E.P 47 ti47 := tyOkV (z := (.agg #[wi, wi])) (by kernel_rfl) rfl (by kernel_rfl) (by kernel_rfl)
theorem tok49 : TyOk E.P 49 ti49 := tyOkV (z := (.agg #[wi, wi, wi, wi, wi, wz, wz, wz])) (by kernel_rfl) rfl (by kernel_rfl) (by kernel_rfl)
theorem tok50 : TyOk E.P 50 ti50 := tyOkV (z := (.slice none 0 0)) (by kernel_rfl) rfl (by kernel_rfl) (by kernel_rfl)
theorem tok52 : TyOk E.P 52 ti52 := tyOkV (z := (.agg #[wi, wi, wi, wn])) (by kernel_rfl) rfl (by kernel_rfl) (by kernel_rfl)
theorem tok54 : TyOk E.P 54 ti54 := tyOkV (z := (.agg #[wi, wi, wi, wi, wi, wi, wi, wi, wz, wz, wz, wi, wi, wn, wi, wi, wi, wi, wi, wi, wi, wi, wi, wi, wi, wi, wi, wi, wi, wi, wi, wi, wi, wi, wi, wi, wi, wi, wi, wi, wi, wi, wi, wi, wi, wi, wi, wi, wi, wi, wi, wi, wn, wi, wi, wi])) (by kernel_rfl) rfl (by kernel_rfl) (by kernel_rfl)
theorem tok55 : TyOk E.P 55 ti55 := tyOkV (z := (.agg #[wi, wi, wi, wi, wi, wi, wi, wi, wn, wi, wi, wi, wi, wi, wi, wi, wi, wz, wz, wz, wi, wi, wn, wi, wi, wi, wi, wi, wi, wi, wi, wi, wi, wi, wi, wi, wi, wi, wi, wi, wi, wi, wi, wi, wi, wi, wi, wi, wi, wi, wi, wi, wi, wi, wi, wi, wi, wi, wi, wi, wi, wn, wi, wi, wi, wi, wi, wi, wi, wi, wi, wi, wi, wi, wi, wi, wn, wi, wi, wi, wi, wi, wi, wi, wi, wi, wi, wi, wi, wi, wi, wi, wi, wi, wi, wi, wi, wi, wi, wi, wi, wi, wi, wi, wi, wn])) (by kernel_rfl) rfl (by kernel_rfl) (by kernel_rfl)
theorem tok56 : TyOk E.P 56 ti56 := tyOkV (z := (.agg #[wi, wi, wi, wi, wi, wi, wi, wi, wn, wi, wi, wi, wi, wi, wi, wi, wi, wz, wz, wz, wi, wi, wn, wi, wi, wi, wi, wi, wi, wi, wi, wi, wi, wi, wi, wi, wi, wi, wi, wi, wi, wi, wi, wi, wi, wi, wi, wi, wi, wi, wi, wi, wi, wi, wi, wi, wi, wi, wi, wi, wi, wn, wi, wi, wi, wi, wi, wi, wi, wi, wi, wi, wi, wi, wi, wi, wn, wi, wi, wi, wi, wi, wi, wi, wi, wi, wi, wi, wi, wi, wi, wi, wi, wi, wi, wi, wi, wi, wi, wi, wi, wi, wi, wi, wi, wn])) (by kernel_rfl) rfl (by kernel_rfl) (by kernel_rfl)
theorem tok59 : TyOk E.P 59 ti59 := tyOkV (z := (.slice none 0 0)) (by kernel_rfl) rfl (by kernel_rfl) (by kernel_rfl)
theorem tok74 : TyOk E.P 74 ti74 := tyOkV (z := (.int .i64 0)) (by kernel_rfl) rfl (by kernel_rfl) (by kernel_rfl)
theorem tok76 : TyOk E.P 76 ti76 := tyOkV (z := (.slice none 0 0)) (by kernel_rfl) rfl (by kernel_rfl) (by kernel_rfl)
theorem tok81 : TyOk E.P 81 ti81 := tyOkV (z := (.agg #[wi, wi, wi, wi, wi, wi, wi, wi, wi, wi, wi, wz, wz, wz, wi, wi, wn, wi, wi, wi, wi, wi, wi, wi, wi, wi, wi, wi, wi, wi, wi, wi, wi, wi, wi, wi, wi, wi, wi, wi, wi, wi, wi, wi, wi, wi, wi, wi, wi, wi, wi, wi, wi, wi, wi, wn, wi, wi, wi])) (by kernel_rfl) rfl (by kernel_rfl) (by kernel_rfl)
theorem tok113 : TyOk E.P 113 ti113 := tyOkV (z := (.slice none 0 0)) (by kernel_rfl) rfl (by kernel_rfl) (by kernel_rfl)
theorem tok115 : TyOk E.P 115 ti115 := tyOkV (z := (.agg #[wi, wi, wz, wn])) (by kernel_rfl) rfl (by kernel_rfl) (by kernel_rfl)
theorem tok117 : TyOk E.P 117 ti117 := tyOkV (z := (.agg #[wi, wi, wi, wi])) (by kernel_rfl) rfl (by kernel_rfl) (by kernel_rfl)
theorem tok119 : TyOk E.P 119 ti119 := tyOkV (z := (.agg #[wi, wi, wi, wi, wi, wi])) (by kernel_rfl) rfl (by kernel_rfl) (by kernel_rfl)
theorem tok122 : TyOk E.P 122 ti122 := tyOkV (z := (.agg #[wz, wz])) (by kernel_rfl) rfl (by kernel_rfl) (by kernel_rfl)
theorem eOk : E.Ok := by
  intro t i h
  have h' : tyT t = some i := h
  unfold tyT at h'
  split at h' <;> first
    | (cases h'; first | exact tok2 | exact tok3 | exact tok4 | exact tok5 | exact tok9 | exact tok12 | exact tok21 | exact tok22 | exact tok23 | exact tok24 | exact tok25 | exact tok26 | exact tok27 | exact tok28 | exact tok29 | exact tok30 | exact tok31 | exact tok32 | exact tok33 | exact tok34 | exact tok35 | exact tok36 | exact tok38 | exact tok44 | exact tok45 | exact tok47 | exact tok49 | exact tok50 | exact tok52 | exact tok54 | exact tok55 | exact tok56 | exact tok59 | exact tok74 | exact tok76 | exact tok81 | exact tok113 | exact tok115 | exact tok117 | exact tok119 | exact tok122)
    | cases h'
theorem eEq : E.EqOk := by
  intro t ks h
  have h' : eqT t = some ks := h
  unfold eqT at h'
  split at h' <;> first
    | (cases h'; exact ⟨by kernel_rfl, by kernel_rfl, by kernel_rfl⟩)
    | cases h'
theorem eGood : Go.Ev.Good E := ⟨eOk, eEq, by kernel_rfl⟩
structure GEpoch where
  Number : Int
  States : Vector (Int) 8
  Seals : Vector (Int) 8
  Sponsor : Vector (Int) 8
instance : Inhabited GEpoch := ⟨⟨default, default, default, default⟩⟩
structure GAttr where
  Key : List UInt8
  Value : List UInt8
instance : Inhabited GAttr := ⟨⟨default, default⟩⟩
structure GTreeNode where
  Node : Int
  Parent : Int
  Name : List UInt8
  Attrs : List (GAttr)
instance : Inhabited GTreeNode := ⟨⟨default, default, default, default⟩⟩
structure GStamp where
  Time : Int
  Site : Int
instance : Inhabited GStamp := ⟨⟨default, default⟩⟩
structure GOp where
  Stamp : GStamp
  Kind : Int
  Node : Int
  Parent : Int
  Name : List UInt8
  Key : List UInt8
  Value : List UInt8
instance : Inhabited GOp := ⟨⟨default, default, default, default, default, default, default⟩⟩
structure GReply where
  Err : Int
  Stamp : GStamp
  Node : Int
instance : Inhabited GReply := ⟨⟨default, default, default⟩⟩
structure GRow where
  Session : Int
  Request : Int
  Reply : GReply
instance : Inhabited GRow := ⟨⟨default, default, default⟩⟩
structure GPart where
  Snap : Int
  Index : Int
  Many : Int
  Data : List (Int)
instance : Inhabited GPart := ⟨⟨default, default, default, default⟩⟩
structure GSnap where
  Site : Int
  Applied : Int
  Booted : Bool
  Epoch : GEpoch
  Clock : Int
  Vector_ : Vector (Int) 8
  Last : Vector (Int) 8
  Base : List (GTreeNode)
  Log : List (GOp)
  Frontier : Int
  Starts : Vector (Int) 8
  Kept : Vector (List (GOp)) 8
  Known : Vector (Vector (Int) 8) 8
  Told : Vector (Int) 8
  Clocks : Vector (Int) 8
  Sure : Vector (Int) 8
  Rows : List (GRow)
  Parts : List (GPart)
instance : Inhabited GSnap := ⟨⟨default, default, default, default, default, default, default, default, default, default, default, default, default, default, default, default, default, default⟩⟩
structure GAddr where
  Group : Int
  Replica : Int
instance : Inhabited GAddr := ⟨⟨default, default⟩⟩
structure GBallot where
  Round : Int
  Replica : Int
instance : Inhabited GBallot := ⟨⟨default, default⟩⟩
structure GEntry where
  Kind : Int
  Session : Int
  Request : Int
  Op : GOp
  Origin : Int
  Seq : Int
  Ops : List (GOp)
  Epoch : GEpoch
  From : Int
  Vector_ : Vector (Int) 8
  Clock : Int
  Part : GPart
  Site : Int
  Sponsor : Int
  Length : Int
instance : Inhabited GEntry := ⟨⟨default, default, default, default, default, default, default, default, default, default, default, default, default, default, default⟩⟩
structure GSlotted where
  Slot : Int
  Ballot : GBallot
  Entry : GEntry
instance : Inhabited GSlotted := ⟨⟨default, default, default⟩⟩
structure GMsg where
  Kind : Int
  From : GAddr
  To : GAddr
  Ballot : GBallot
  Slot : Int
  List_ : List (GSlotted)
  Entry : GEntry
  Number : Int
  Vector_ : Vector (Int) 8
  Clock : Int
  Origin : Int
  Ops : List (GOp)
  Epoch : GEpoch
  Part : GPart
instance : Inhabited GMsg := ⟨⟨default, default, default, default, default, default, default, default, default, default, default, default, default, default⟩⟩
structure GMsgH where
  Kind : Int
  From : GAddr
  To : GAddr
  Ballot : GBallot
  Slot : Int
  List_ : List (GSlotted)
  Entry : GEntry
  Number : Int
  Vector_ : Vector (Int) 8
  Clock : Int
  Origin : Int
  Ops : Hd
  Epoch : GEpoch
  Part : GPart
instance : Inhabited GMsgH := ⟨⟨default, default, default, default, default, default, default, default, default, default, default, default, default, default⟩⟩
@[reducible] def τ : Nat → Type
  | 2 => Int
  | 3 => Int
  | 4 => Bool
  | 5 => Int
  | 9 => List UInt8
  | 12 => Int
  | 21 => Int
  | 22 => Vector (Int) 8
  | 23 => Vector (Int) 8
  | 24 => Vector (Int) 8
  | 25 => GEpoch
  | 26 => GEpoch
  | 27 => List (GTreeNode)
  | 28 => List (GOp)
  | 29 => Vector (List (GOp)) 8
  | 30 => Vector (Vector (Int) 8) 8
  | 31 => List (GRow)
  | 32 => List (GPart)
  | 33 => GSnap
  | 34 => GSnap
  | 35 => GAddr
  | 36 => GAddr
  | 38 => List (GMsg)
  | 44 => GBallot
  | 45 => List (GSlotted)
  | 47 => GStamp
  | 49 => GOp
  | 50 => List (Int)
  | 52 => GPart
  | 54 => GEntry
  | 55 => GMsg
  | 56 => GMsg
  | 59 => List (Int)
  | 74 => Int
  | 76 => List (GAddr)
  | 81 => GSlotted
  | 113 => List (GAttr)
  | 115 => GTreeNode
  | 117 => GReply
  | 119 => GRow
  | 122 => GAttr
  | 20056 => GMsgH
  | 10049 => Hd
  | _ => Unit
def cel10049 (x : Hd) : List AV := [.hsl x.j (x.o * 8) x.n x.c x.nn 8]
def enc10049 (x : Hd) : TV τ := .hsl 49 x.j x.o x.n x.c x.nn
def dec10049 (x : TV τ) : Option Hd := dHd 49 x
def cel2 (x : Int) : List AV := [.v (.int .i64 x)]
def enc2 (x : Int) : TV τ := .int .i64 x
def dec2 (x : TV τ) : Option (Int) := dInt .i64 x
def beq2 (x y : Int) : Bool := (x == y)
def cel3 (x : Int) : List AV := [.v (.int .i64 x)]
def enc3 (x : Int) : TV τ := .int .i64 x
def dec3 (x : TV τ) : Option (Int) := dInt .i64 x
def beq3 (x y : Int) : Bool := (x == y)
def cel4 (x : Bool) : List AV := [.v (.bool x)]
def enc4 (x : Bool) : TV τ := .bool x
def dec4 (x : TV τ) : Option (Bool) := dBool x
def beq4 (x y : Bool) : Bool := (x == y)
def cel5 (x : Int) : List AV := [.v (.int .u8 x)]
def enc5 (x : Int) : TV τ := .int .u8 x
def dec5 (x : TV τ) : Option (Int) := dInt .u8 x
def beq5 (x y : Int) : Bool := (x == y)
def cel9 (x : List UInt8) : List AV := [.v (.string ⟨⟨x⟩⟩)]
def enc9 (x : List UInt8) : TV τ := .str x
def dec9 (x : TV τ) : Option (List UInt8) := dStr x
def beq9 (x y : List UInt8) : Bool := (x == y)
def cel12 (x : Int) : List AV := [.v (.int .u64 x)]
def enc12 (x : Int) : TV τ := .int .u64 x
def dec12 (x : TV τ) : Option (Int) := dInt .u64 x
def beq12 (x y : Int) : Bool := (x == y)
def cel21 (x : Int) : List AV := [.v (.int .i32 x)]
def enc21 (x : Int) : TV τ := .int .i32 x
def dec21 (x : TV τ) : Option (Int) := dInt .i32 x
def beq21 (x y : Int) : Bool := (x == y)
def cel22 (x : Vector (Int) 8) : List AV := x.toList.flatMap cel3
def enc22 (x : Vector (Int) 8) : TV τ := .arr 3 8 x
def dec22 (x : TV τ) : Option (Vector (Int) 8) := dArr 3 8 x
def beq22 (x y : Vector (Int) 8) : Bool := vbeq beq3 x y
def cel23 (x : Vector (Int) 8) : List AV := x.toList.flatMap cel2
def enc23 (x : Vector (Int) 8) : TV τ := .arr 2 8 x
def dec23 (x : TV τ) : Option (Vector (Int) 8) := dArr 2 8 x
def beq23 (x y : Vector (Int) 8) : Bool := vbeq beq2 x y
def cel24 (x : Vector (Int) 8) : List AV := x.toList.flatMap cel2
def enc24 (x : Vector (Int) 8) : TV τ := .arr 2 8 x
def dec24 (x : TV τ) : Option (Vector (Int) 8) := dArr 2 8 x
def beq24 (x y : Vector (Int) 8) : Bool := vbeq beq2 x y
def cel25 (x : GEpoch) : List AV := (cel2 x.Number ++ (cel22 x.States ++ (cel24 x.Seals ++ (cel22 x.Sponsor ++ []))))
def enc25 (x : GEpoch) : TV τ := .agg [enc2 x.Number, enc22 x.States, enc24 x.Seals, enc22 x.Sponsor]
def dec25 (x : TV τ) : Option (GEpoch) := (match x with | .agg [x0, x1, x2, x3] => (match dec2 x0 with | some a0 => (match dec22 x1 with | some a1 => (match dec24 x2 with | some a2 => (match dec22 x3 with | some a3 => some ⟨a0, a1, a2, a3⟩ | none => none) | none => none) | none => none) | none => none) | _ => none)
def beq25 (x y : GEpoch) : Bool := (beq2 x.Number y.Number && (beq22 x.States y.States && (beq24 x.Seals y.Seals && (beq22 x.Sponsor y.Sponsor && true))))
def cel26 (x : GEpoch) : List AV := cel25 x
def enc26 (x : GEpoch) : TV τ := enc25 x
def dec26 (x : TV τ) : Option (GEpoch) := dec25 x
def beq26 (x y : GEpoch) : Bool := beq25 x y
def cel122 (x : GAttr) : List AV := (cel9 x.Key ++ (cel9 x.Value ++ []))
def enc122 (x : GAttr) : TV τ := .agg [enc9 x.Key, enc9 x.Value]
def dec122 (x : TV τ) : Option (GAttr) := (match x with | .agg [x0, x1] => (match dec9 x0 with | some a0 => (match dec9 x1 with | some a1 => some ⟨a0, a1⟩ | none => none) | none => none) | _ => none)
def beq122 (x y : GAttr) : Bool := (beq9 x.Key y.Key && (beq9 x.Value y.Value && true))
def cel113 (x : List (GAttr)) : List AV := [.asl 2 (x.map cel122)]
def enc113 (x : List (GAttr)) : TV τ := .sl 122 x .any
def dec113 (x : TV τ) : Option (List (GAttr)) := dSl 122 x
def cel115 (x : GTreeNode) : List AV := (cel2 x.Node ++ (cel2 x.Parent ++ (cel9 x.Name ++ (cel113 x.Attrs ++ []))))
def enc115 (x : GTreeNode) : TV τ := .agg [enc2 x.Node, enc2 x.Parent, enc9 x.Name, enc113 x.Attrs]
def dec115 (x : TV τ) : Option (GTreeNode) := (match x with | .agg [x0, x1, x2, x3] => (match dec2 x0 with | some a0 => (match dec2 x1 with | some a1 => (match dec9 x2 with | some a2 => (match dec113 x3 with | some a3 => some ⟨a0, a1, a2, a3⟩ | none => none) | none => none) | none => none) | none => none) | _ => none)
def cel27 (x : List (GTreeNode)) : List AV := [.asl 4 (x.map cel115)]
def enc27 (x : List (GTreeNode)) : TV τ := .sl 115 x .any
def dec27 (x : TV τ) : Option (List (GTreeNode)) := dSl 115 x
def cel47 (x : GStamp) : List AV := (cel2 x.Time ++ (cel3 x.Site ++ []))
def enc47 (x : GStamp) : TV τ := .agg [enc2 x.Time, enc3 x.Site]
def dec47 (x : TV τ) : Option (GStamp) := (match x with | .agg [x0, x1] => (match dec2 x0 with | some a0 => (match dec3 x1 with | some a1 => some ⟨a0, a1⟩ | none => none) | none => none) | _ => none)
def beq47 (x y : GStamp) : Bool := (beq2 x.Time y.Time && (beq3 x.Site y.Site && true))
def cel49 (x : GOp) : List AV := (cel47 x.Stamp ++ (cel3 x.Kind ++ (cel2 x.Node ++ (cel2 x.Parent ++ (cel9 x.Name ++ (cel9 x.Key ++ (cel9 x.Value ++ [])))))))
def enc49 (x : GOp) : TV τ := .agg [enc47 x.Stamp, enc3 x.Kind, enc2 x.Node, enc2 x.Parent, enc9 x.Name, enc9 x.Key, enc9 x.Value]
def dec49 (x : TV τ) : Option (GOp) := (match x with | .agg [x0, x1, x2, x3, x4, x5, x6] => (match dec47 x0 with | some a0 => (match dec3 x1 with | some a1 => (match dec2 x2 with | some a2 => (match dec2 x3 with | some a3 => (match dec9 x4 with | some a4 => (match dec9 x5 with | some a5 => (match dec9 x6 with | some a6 => some ⟨a0, a1, a2, a3, a4, a5, a6⟩ | none => none) | none => none) | none => none) | none => none) | none => none) | none => none) | none => none) | _ => none)
def beq49 (x y : GOp) : Bool := (beq47 x.Stamp y.Stamp && (beq3 x.Kind y.Kind && (beq2 x.Node y.Node && (beq2 x.Parent y.Parent && (beq9 x.Name y.Name && (beq9 x.Key y.Key && (beq9 x.Value y.Value && true)))))))
def cel28 (x : List (GOp)) : List AV := [.asl 8 (x.map cel49)]
def enc28 (x : List (GOp)) : TV τ := .sl 49 x .any
def dec28 (x : TV τ) : Option (List (GOp)) := dSl 49 x
def cel29 (x : Vector (List (GOp)) 8) : List AV := x.toList.flatMap cel28
def enc29 (x : Vector (List (GOp)) 8) : TV τ := .arr 28 8 x
def dec29 (x : TV τ) : Option (Vector (List (GOp)) 8) := dArr 28 8 x
def cel30 (x : Vector (Vector (Int) 8) 8) : List AV := x.toList.flatMap cel24
def enc30 (x : Vector (Vector (Int) 8) 8) : TV τ := .arr 24 8 x
def dec30 (x : TV τ) : Option (Vector (Vector (Int) 8) 8) := dArr 24 8 x
def beq30 (x y : Vector (Vector (Int) 8) 8) : Bool := vbeq beq24 x y
def cel74 (x : Int) : List AV := [.v (.int .i64 x)]
def enc74 (x : Int) : TV τ := .int .i64 x
def dec74 (x : TV τ) : Option (Int) := dInt .i64 x
def beq74 (x y : Int) : Bool := (x == y)
def cel117 (x : GReply) : List AV := (cel74 x.Err ++ (cel47 x.Stamp ++ (cel2 x.Node ++ [])))
def enc117 (x : GReply) : TV τ := .agg [enc74 x.Err, enc47 x.Stamp, enc2 x.Node]
def dec117 (x : TV τ) : Option (GReply) := (match x with | .agg [x0, x1, x2] => (match dec74 x0 with | some a0 => (match dec47 x1 with | some a1 => (match dec2 x2 with | some a2 => some ⟨a0, a1, a2⟩ | none => none) | none => none) | none => none) | _ => none)
def beq117 (x y : GReply) : Bool := (beq74 x.Err y.Err && (beq47 x.Stamp y.Stamp && (beq2 x.Node y.Node && true)))
def cel119 (x : GRow) : List AV := (cel2 x.Session ++ (cel2 x.Request ++ (cel117 x.Reply ++ [])))
def enc119 (x : GRow) : TV τ := .agg [enc2 x.Session, enc2 x.Request, enc117 x.Reply]
def dec119 (x : TV τ) : Option (GRow) := (match x with | .agg [x0, x1, x2] => (match dec2 x0 with | some a0 => (match dec2 x1 with | some a1 => (match dec117 x2 with | some a2 => some ⟨a0, a1, a2⟩ | none => none) | none => none) | none => none) | _ => none)
def beq119 (x y : GRow) : Bool := (beq2 x.Session y.Session && (beq2 x.Request y.Request && (beq117 x.Reply y.Reply && true)))
def cel31 (x : List (GRow)) : List AV := [.asl 6 (x.map cel119)]
def enc31 (x : List (GRow)) : TV τ := .sl 119 x .any
def dec31 (x : TV τ) : Option (List (GRow)) := dSl 119 x
def cel50 (x : List (Int)) : List AV := [.asl 1 (x.map cel5)]
def enc50 (x : List (Int)) : TV τ := .sl 5 x .any
def dec50 (x : TV τ) : Option (List (Int)) := dSl 5 x
def cel52 (x : GPart) : List AV := (cel2 x.Snap ++ (cel3 x.Index ++ (cel3 x.Many ++ (cel50 x.Data ++ []))))
def enc52 (x : GPart) : TV τ := .agg [enc2 x.Snap, enc3 x.Index, enc3 x.Many, enc50 x.Data]
def dec52 (x : TV τ) : Option (GPart) := (match x with | .agg [x0, x1, x2, x3] => (match dec2 x0 with | some a0 => (match dec3 x1 with | some a1 => (match dec3 x2 with | some a2 => (match dec50 x3 with | some a3 => some ⟨a0, a1, a2, a3⟩ | none => none) | none => none) | none => none) | none => none) | _ => none)
def cel32 (x : List (GPart)) : List AV := [.asl 4 (x.map cel52)]
def enc32 (x : List (GPart)) : TV τ := .sl 52 x .any
def dec32 (x : TV τ) : Option (List (GPart)) := dSl 52 x
def cel33 (x : GSnap) : List AV := (cel3 x.Site ++ (cel2 x.Applied ++ (cel4 x.Booted ++ (cel26 x.Epoch ++ (cel2 x.Clock ++ (cel24 x.Vector_ ++ (cel24 x.Last ++ (cel27 x.Base ++ (cel28 x.Log ++ (cel2 x.Frontier ++ (cel24 x.Starts ++ (cel29 x.Kept ++ (cel30 x.Known ++ (cel24 x.Told ++ (cel24 x.Clocks ++ (cel24 x.Sure ++ (cel31 x.Rows ++ (cel32 x.Parts ++ []))))))))))))))))))
def enc33 (x : GSnap) : TV τ := .agg [enc3 x.Site, enc2 x.Applied, enc4 x.Booted, enc26 x.Epoch, enc2 x.Clock, enc24 x.Vector_, enc24 x.Last, enc27 x.Base, enc28 x.Log, enc2 x.Frontier, enc24 x.Starts, enc29 x.Kept, enc30 x.Known, enc24 x.Told, enc24 x.Clocks, enc24 x.Sure, enc31 x.Rows, enc32 x.Parts]
def dec33 (x : TV τ) : Option (GSnap) := (match x with | .agg [x0, x1, x2, x3, x4, x5, x6, x7, x8, x9, x10, x11, x12, x13, x14, x15, x16, x17] => (match dec3 x0 with | some a0 => (match dec2 x1 with | some a1 => (match dec4 x2 with | some a2 => (match dec26 x3 with | some a3 => (match dec2 x4 with | some a4 => (match dec24 x5 with | some a5 => (match dec24 x6 with | some a6 => (match dec27 x7 with | some a7 => (match dec28 x8 with | some a8 => (match dec2 x9 with | some a9 => (match dec24 x10 with | some a10 => (match dec29 x11 with | some a11 => (match dec30 x12 with | some a12 => (match dec24 x13 with | some a13 => (match dec24 x14 with | some a14 => (match dec24 x15 with | some a15 => (match dec31 x16 with | some a16 => (match dec32 x17 with | some a17 => some ⟨a0, a1, a2, a3, a4, a5, a6, a7, a8, a9, a10, a11, a12, a13, a14, a15, a16, a17⟩ | none => none) | none => none) | none => none) | none => none) | none => none) | none => none) | none => none) | none => none) | none => none) | none => none) | none => none) | none => none) | none => none) | none => none) | none => none) | none => none) | none => none) | none => none) | _ => none)
def cel34 (x : GSnap) : List AV := cel33 x
def enc34 (x : GSnap) : TV τ := enc33 x
def dec34 (x : TV τ) : Option (GSnap) := dec33 x
def cel35 (x : GAddr) : List AV := (cel3 x.Group ++ (cel3 x.Replica ++ []))
def enc35 (x : GAddr) : TV τ := .agg [enc3 x.Group, enc3 x.Replica]
def dec35 (x : TV τ) : Option (GAddr) := (match x with | .agg [x0, x1] => (match dec3 x0 with | some a0 => (match dec3 x1 with | some a1 => some ⟨a0, a1⟩ | none => none) | none => none) | _ => none)
def beq35 (x y : GAddr) : Bool := (beq3 x.Group y.Group && (beq3 x.Replica y.Replica && true))
def cel36 (x : GAddr) : List AV := cel35 x
def enc36 (x : GAddr) : TV τ := enc35 x
def dec36 (x : TV τ) : Option (GAddr) := dec35 x
def beq36 (x y : GAddr) : Bool := beq35 x y
def cel44 (x : GBallot) : List AV := (cel2 x.Round ++ (cel3 x.Replica ++ []))
def enc44 (x : GBallot) : TV τ := .agg [enc2 x.Round, enc3 x.Replica]
def dec44 (x : TV τ) : Option (GBallot) := (match x with | .agg [x0, x1] => (match dec2 x0 with | some a0 => (match dec3 x1 with | some a1 => some ⟨a0, a1⟩ | none => none) | none => none) | _ => none)
def beq44 (x y : GBallot) : Bool := (beq2 x.Round y.Round && (beq3 x.Replica y.Replica && true))
def cel54 (x : GEntry) : List AV := (cel3 x.Kind ++ (cel2 x.Session ++ (cel2 x.Request ++ (cel49 x.Op ++ (cel3 x.Origin ++ (cel2 x.Seq ++ (cel28 x.Ops ++ (cel26 x.Epoch ++ (cel3 x.From ++ (cel24 x.Vector_ ++ (cel2 x.Clock ++ (cel52 x.Part ++ (cel3 x.Site ++ (cel3 x.Sponsor ++ (cel2 x.Length ++ [])))))))))))))))
def enc54 (x : GEntry) : TV τ := .agg [enc3 x.Kind, enc2 x.Session, enc2 x.Request, enc49 x.Op, enc3 x.Origin, enc2 x.Seq, enc28 x.Ops, enc26 x.Epoch, enc3 x.From, enc24 x.Vector_, enc2 x.Clock, enc52 x.Part, enc3 x.Site, enc3 x.Sponsor, enc2 x.Length]
def dec54 (x : TV τ) : Option (GEntry) := (match x with | .agg [x0, x1, x2, x3, x4, x5, x6, x7, x8, x9, x10, x11, x12, x13, x14] => (match dec3 x0 with | some a0 => (match dec2 x1 with | some a1 => (match dec2 x2 with | some a2 => (match dec49 x3 with | some a3 => (match dec3 x4 with | some a4 => (match dec2 x5 with | some a5 => (match dec28 x6 with | some a6 => (match dec26 x7 with | some a7 => (match dec3 x8 with | some a8 => (match dec24 x9 with | some a9 => (match dec2 x10 with | some a10 => (match dec52 x11 with | some a11 => (match dec3 x12 with | some a12 => (match dec3 x13 with | some a13 => (match dec2 x14 with | some a14 => some ⟨a0, a1, a2, a3, a4, a5, a6, a7, a8, a9, a10, a11, a12, a13, a14⟩ | none => none) | none => none) | none => none) | none => none) | none => none) | none => none) | none => none) | none => none) | none => none) | none => none) | none => none) | none => none) | none => none) | none => none) | none => none) | _ => none)
def cel81 (x : GSlotted) : List AV := (cel2 x.Slot ++ (cel44 x.Ballot ++ (cel54 x.Entry ++ [])))
def enc81 (x : GSlotted) : TV τ := .agg [enc2 x.Slot, enc44 x.Ballot, enc54 x.Entry]
def dec81 (x : TV τ) : Option (GSlotted) := (match x with | .agg [x0, x1, x2] => (match dec2 x0 with | some a0 => (match dec44 x1 with | some a1 => (match dec54 x2 with | some a2 => some ⟨a0, a1, a2⟩ | none => none) | none => none) | none => none) | _ => none)
def cel45 (x : List (GSlotted)) : List AV := [.asl 59 (x.map cel81)]
def enc45 (x : List (GSlotted)) : TV τ := .sl 81 x .any
def dec45 (x : TV τ) : Option (List (GSlotted)) := dSl 81 x
def cel56 (x : GMsg) : List AV := (cel3 x.Kind ++ (cel36 x.From ++ (cel36 x.To ++ (cel44 x.Ballot ++ (cel2 x.Slot ++ (cel45 x.List_ ++ (cel54 x.Entry ++ (cel2 x.Number ++ (cel24 x.Vector_ ++ (cel2 x.Clock ++ (cel3 x.Origin ++ (cel28 x.Ops ++ (cel26 x.Epoch ++ (cel52 x.Part ++ []))))))))))))))
def enc56 (x : GMsg) : TV τ := .agg [enc3 x.Kind, enc36 x.From, enc36 x.To, enc44 x.Ballot, enc2 x.Slot, enc45 x.List_, enc54 x.Entry, enc2 x.Number, enc24 x.Vector_, enc2 x.Clock, enc3 x.Origin, enc28 x.Ops, enc26 x.Epoch, enc52 x.Part]
def dec56 (x : TV τ) : Option (GMsg) := (match x with | .agg [x0, x1, x2, x3, x4, x5, x6, x7, x8, x9, x10, x11, x12, x13] => (match dec3 x0 with | some a0 => (match dec36 x1 with | some a1 => (match dec36 x2 with | some a2 => (match dec44 x3 with | some a3 => (match dec2 x4 with | some a4 => (match dec45 x5 with | some a5 => (match dec54 x6 with | some a6 => (match dec2 x7 with | some a7 => (match dec24 x8 with | some a8 => (match dec2 x9 with | some a9 => (match dec3 x10 with | some a10 => (match dec28 x11 with | some a11 => (match dec26 x12 with | some a12 => (match dec52 x13 with | some a13 => some ⟨a0, a1, a2, a3, a4, a5, a6, a7, a8, a9, a10, a11, a12, a13⟩ | none => none) | none => none) | none => none) | none => none) | none => none) | none => none) | none => none) | none => none) | none => none) | none => none) | none => none) | none => none) | none => none) | none => none) | _ => none)
def cel38 (x : List (GMsg)) : List AV := [.asl 106 (x.map cel56)]
def enc38 (x : List (GMsg)) : TV τ := .sl 56 x .any
def dec38 (x : TV τ) : Option (List (GMsg)) := dSl 56 x
def cel55 (x : GMsg) : List AV := cel56 x
def enc55 (x : GMsg) : TV τ := enc56 x
def dec55 (x : TV τ) : Option (GMsg) := dec56 x
def cel59 (x : List (Int)) : List AV := [.asl 1 (x.map cel3)]
def enc59 (x : List (Int)) : TV τ := .sl 3 x .any
def dec59 (x : TV τ) : Option (List (Int)) := dSl 3 x
def cel76 (x : List (GAddr)) : List AV := [.asl 2 (x.map cel36)]
def enc76 (x : List (GAddr)) : TV τ := .sl 36 x .any
def dec76 (x : TV τ) : Option (List (GAddr)) := dSl 36 x
def cel20056 (x : GMsgH) : List AV := (cel3 x.Kind ++ (cel36 x.From ++ (cel36 x.To ++ (cel44 x.Ballot ++ (cel2 x.Slot ++ (cel45 x.List_ ++ (cel54 x.Entry ++ (cel2 x.Number ++ (cel24 x.Vector_ ++ (cel2 x.Clock ++ (cel3 x.Origin ++ (cel10049 x.Ops ++ (cel26 x.Epoch ++ (cel52 x.Part ++ []))))))))))))))
def enc20056 (x : GMsgH) : TV τ := .agg [enc3 x.Kind, enc36 x.From, enc36 x.To, enc44 x.Ballot, enc2 x.Slot, enc45 x.List_, enc54 x.Entry, enc2 x.Number, enc24 x.Vector_, enc2 x.Clock, enc3 x.Origin, enc10049 x.Ops, enc26 x.Epoch, enc52 x.Part]
def dec20056 (x : TV τ) : Option (GMsgH) := (match x with | .agg [x0, x1, x2, x3, x4, x5, x6, x7, x8, x9, x10, x11, x12, x13] => (match dec3 x0 with | some a0 => (match dec36 x1 with | some a1 => (match dec36 x2 with | some a2 => (match dec44 x3 with | some a3 => (match dec2 x4 with | some a4 => (match dec45 x5 with | some a5 => (match dec54 x6 with | some a6 => (match dec2 x7 with | some a7 => (match dec24 x8 with | some a8 => (match dec2 x9 with | some a9 => (match dec3 x10 with | some a10 => (match dec10049 x11 with | some a11 => (match dec26 x12 with | some a12 => (match dec52 x13 with | some a13 => some ⟨a0, a1, a2, a3, a4, a5, a6, a7, a8, a9, a10, a11, a12, a13⟩ | none => none) | none => none) | none => none) | none => none) | none => none) | none => none) | none => none) | none => none) | none => none) | none => none) | none => none) | none => none) | none => none) | none => none) | _ => none)
def celT : (t : Nat) → τ t → List AV
  | 2 => cel2
  | 3 => cel3
  | 4 => cel4
  | 5 => cel5
  | 9 => cel9
  | 12 => cel12
  | 21 => cel21
  | 22 => cel22
  | 23 => cel23
  | 24 => cel24
  | 25 => cel25
  | 26 => cel26
  | 27 => cel27
  | 28 => cel28
  | 29 => cel29
  | 30 => cel30
  | 31 => cel31
  | 32 => cel32
  | 33 => cel33
  | 34 => cel34
  | 35 => cel35
  | 36 => cel36
  | 38 => cel38
  | 44 => cel44
  | 45 => cel45
  | 47 => cel47
  | 49 => cel49
  | 50 => cel50
  | 52 => cel52
  | 54 => cel54
  | 55 => cel55
  | 56 => cel56
  | 59 => cel59
  | 74 => cel74
  | 76 => cel76
  | 81 => cel81
  | 113 => cel113
  | 115 => cel115
  | 117 => cel117
  | 119 => cel119
  | 122 => cel122
  | 20056 => cel20056
  | 10049 => cel10049
  | _ => fun _ => []
def encT : (t : Nat) → τ t → TV τ
  | 2 => enc2
  | 3 => enc3
  | 4 => enc4
  | 5 => enc5
  | 9 => enc9
  | 12 => enc12
  | 21 => enc21
  | 22 => enc22
  | 23 => enc23
  | 24 => enc24
  | 25 => enc25
  | 26 => enc26
  | 27 => enc27
  | 28 => enc28
  | 29 => enc29
  | 30 => enc30
  | 31 => enc31
  | 32 => enc32
  | 33 => enc33
  | 34 => enc34
  | 35 => enc35
  | 36 => enc36
  | 38 => enc38
  | 44 => enc44
  | 45 => enc45
  | 47 => enc47
  | 49 => enc49
  | 50 => enc50
  | 52 => enc52
  | 54 => enc54
  | 55 => enc55
  | 56 => enc56
  | 59 => enc59
  | 74 => enc74
  | 76 => enc76
  | 81 => enc81
  | 113 => enc113
  | 115 => enc115
  | 117 => enc117
  | 119 => enc119
  | 122 => enc122
  | 20056 => enc20056
  | 10049 => enc10049
  | _ => fun _ => .agg []
def decT : (t : Nat) → TV τ → Option (τ t)
  | 2 => dec2
  | 3 => dec3
  | 4 => dec4
  | 5 => dec5
  | 9 => dec9
  | 12 => dec12
  | 21 => dec21
  | 22 => dec22
  | 23 => dec23
  | 24 => dec24
  | 25 => dec25
  | 26 => dec26
  | 27 => dec27
  | 28 => dec28
  | 29 => dec29
  | 30 => dec30
  | 31 => dec31
  | 32 => dec32
  | 33 => dec33
  | 34 => dec34
  | 35 => dec35
  | 36 => dec36
  | 38 => dec38
  | 44 => dec44
  | 45 => dec45
  | 47 => dec47
  | 49 => dec49
  | 50 => dec50
  | 52 => dec52
  | 54 => dec54
  | 55 => dec55
  | 56 => dec56
  | 59 => dec59
  | 74 => dec74
  | 76 => dec76
  | 81 => dec81
  | 113 => dec113
  | 115 => dec115
  | 117 => dec117
  | 119 => dec119
  | 122 => dec122
  | 20056 => dec20056
  | 10049 => dec10049
  | _ => fun _ => none
theorem dfN (t : Nat) : Nonempty (τ t) := by unfold τ; split <;> exact ⟨default⟩
noncomputable def dfX (t : Nat) : τ t := Classical.choice (dfN t)
noncomputable def dfT : (t : Nat) → τ t
  | 2 => (default : Int)
  | 3 => (default : Int)
  | 4 => (default : Bool)
  | 5 => (default : Int)
  | 9 => (default : List UInt8)
  | 12 => (default : Int)
  | 21 => (default : Int)
  | 22 => (default : Vector (Int) 8)
  | 23 => (default : Vector (Int) 8)
  | 24 => (default : Vector (Int) 8)
  | 25 => (default : GEpoch)
  | 26 => (default : GEpoch)
  | 27 => (default : List (GTreeNode))
  | 28 => (default : List (GOp))
  | 29 => (default : Vector (List (GOp)) 8)
  | 30 => (default : Vector (Vector (Int) 8) 8)
  | 31 => (default : List (GRow))
  | 32 => (default : List (GPart))
  | 33 => (default : GSnap)
  | 34 => (default : GSnap)
  | 35 => (default : GAddr)
  | 36 => (default : GAddr)
  | 38 => (default : List (GMsg))
  | 44 => (default : GBallot)
  | 45 => (default : List (GSlotted))
  | 47 => (default : GStamp)
  | 49 => (default : GOp)
  | 50 => (default : List (Int))
  | 52 => (default : GPart)
  | 54 => (default : GEntry)
  | 55 => (default : GMsg)
  | 56 => (default : GMsg)
  | 59 => (default : List (Int))
  | 74 => (default : Int)
  | 76 => (default : List (GAddr))
  | 81 => (default : GSlotted)
  | 113 => (default : List (GAttr))
  | 115 => (default : GTreeNode)
  | 117 => (default : GReply)
  | 119 => (default : GRow)
  | 122 => (default : GAttr)
  | 20056 => (default : GMsgH)
  | 10049 => (default : Hd)
  | t => dfX t
def szT : Nat → Nat
  | 2 => 1
  | 3 => 1
  | 4 => 1
  | 5 => 1
  | 9 => 1
  | 12 => 1
  | 21 => 1
  | 22 => 8
  | 23 => 8
  | 24 => 8
  | 25 => 25
  | 26 => 25
  | 27 => 1
  | 28 => 1
  | 29 => 8
  | 30 => 64
  | 31 => 1
  | 32 => 1
  | 33 => 154
  | 34 => 154
  | 35 => 2
  | 36 => 2
  | 38 => 1
  | 44 => 2
  | 45 => 1
  | 47 => 2
  | 49 => 8
  | 50 => 1
  | 52 => 4
  | 54 => 56
  | 55 => 106
  | 56 => 106
  | 59 => 1
  | 74 => 1
  | 76 => 1
  | 81 => 59
  | 113 => 1
  | 115 => 4
  | 117 => 4
  | 119 => 6
  | 122 => 2
  | 20056 => 106
  | 10049 => 1
  | _ => 0
def kdT : Nat → Option (List Kd)
  | 2 => some [.i]
  | 3 => some [.i]
  | 4 => some [.b]
  | 5 => some [.i]
  | 9 => some [.s]
  | 12 => some [.i]
  | 21 => some [.i]
  | 22 => some [.i, .i, .i, .i, .i, .i, .i, .i]
  | 23 => some [.i, .i, .i, .i, .i, .i, .i, .i]
  | 24 => some [.i, .i, .i, .i, .i, .i, .i, .i]
  | 25 => some [.i, .i, .i, .i, .i, .i, .i, .i, .i, .i, .i, .i, .i, .i, .i, .i, .i, .i, .i, .i, .i, .i, .i, .i, .i]
  | 26 => some [.i, .i, .i, .i, .i, .i, .i, .i, .i, .i, .i, .i, .i, .i, .i, .i, .i, .i, .i, .i, .i, .i, .i, .i, .i]
  | 30 => some [.i, .i, .i, .i, .i, .i, .i, .i, .i, .i, .i, .i, .i, .i, .i, .i, .i, .i, .i, .i, .i, .i, .i, .i, .i, .i, .i, .i, .i, .i, .i, .i, .i, .i, .i, .i, .i, .i, .i, .i, .i, .i, .i, .i, .i, .i, .i, .i, .i, .i, .i, .i, .i, .i, .i, .i, .i, .i, .i, .i, .i, .i, .i, .i]
  | 35 => some [.i, .i]
  | 36 => some [.i, .i]
  | 44 => some [.i, .i]
  | 47 => some [.i, .i]
  | 49 => some [.i, .i, .i, .i, .i, .s, .s, .s]
  | 74 => some [.i]
  | 117 => some [.i, .i, .i, .i]
  | 119 => some [.i, .i, .i, .i, .i, .i]
  | 122 => some [.s, .s]
  | _ => none
def beqT : (t : Nat) → τ t → τ t → Bool
  | 2 => beq2
  | 3 => beq3
  | 4 => beq4
  | 5 => beq5
  | 9 => beq9
  | 12 => beq12
  | 21 => beq21
  | 22 => beq22
  | 23 => beq23
  | 24 => beq24
  | 25 => beq25
  | 26 => beq26
  | 30 => beq30
  | 35 => beq35
  | 36 => beq36
  | 44 => beq44
  | 47 => beq47
  | 49 => beq49
  | 74 => beq74
  | 117 => beq117
  | 119 => beq119
  | 122 => beq122
  | _ => fun _ _ => false
def b2sT : (t : Nat) → List (τ t) → Option (List UInt8)
  | 5 => fun (l : List Int) => some (strI l)
  | _ => fun _ => none
def s2bT : (t : Nat) → List UInt8 → Option (List (τ t))
  | 5 => fun s => some (bytesI s)
  | _ => fun _ => none
noncomputable def siteT : Nat → Nat → Array Tmp × Code × Code := fun f k => bif Nat.beq f 3 then siteFn Try.f3 k else bif Nat.beq f 8 then siteFn Try.f8 k else (#[], .skip, .skip)
noncomputable def C : Cod τ := ⟨celT, encT, decT, dfT, szT, kdT, beqT, b2sT, s2bT, siteT⟩
theorem law10049 : CodAt C 10049 := ⟨fun x => rfl, fun x => rfl, fun x a h => (dHd_cw (C := C) (show dHd 49 x = some a from h)).1, fun x => rfl, fun x a h => (dHd_cw (C := C) (show dHd 49 x = some a from h)).2.1, fun x a h => (dHd_cw (C := C) (show dHd 49 x = some a from h)).2.2, fun a => rfl, fun a => noids_one NoId.hsl, (fun ks h => nomatch h), (fun l s h => nomatch h), (fun s l h => nomatch h)⟩
theorem law2 : CodAt C 2 := ⟨fun x => rfl, fun x => rfl, fun x a h => by rw [dInt_x (show dInt .i64 x = some a from h)]; exact .refl _, fun x => rfl, fun x a h => by rw [dInt_x (show dInt .i64 x = some a from h)]; rfl, fun x a h => by rw [dInt_x (show dInt .i64 x = some a from h)]; rfl, fun a => rfl, fun a => noids_one (NoId.v _), fun ks h a b => by cases h; simp [eqCells, scal, C, celT, cel2, beqT, beq2], (fun l s h => nomatch h), (fun s l h => nomatch h)⟩
theorem law3 : CodAt C 3 := ⟨fun x => rfl, fun x => rfl, fun x a h => by rw [dInt_x (show dInt .i64 x = some a from h)]; exact .refl _, fun x => rfl, fun x a h => by rw [dInt_x (show dInt .i64 x = some a from h)]; rfl, fun x a h => by rw [dInt_x (show dInt .i64 x = some a from h)]; rfl, fun a => rfl, fun a => noids_one (NoId.v _), fun ks h a b => by cases h; simp [eqCells, scal, C, celT, cel3, beqT, beq3], (fun l s h => nomatch h), (fun s l h => nomatch h)⟩
theorem law4 : CodAt C 4 := ⟨fun x => rfl, fun x => rfl, fun x a h => by rw [dBool_x (show dBool x = some a from h)]; exact .refl _, fun x => rfl, fun x a h => by rw [dBool_x (show dBool x = some a from h)]; rfl, fun x a h => by rw [dBool_x (show dBool x = some a from h)]; rfl, fun a => rfl, fun a => noids_one (NoId.v _), fun ks h a b => by cases h; simp [eqCells, scal, C, celT, cel4, beqT, beq4], (fun l s h => nomatch h), (fun s l h => nomatch h)⟩
theorem law5 : CodAt C 5 := ⟨fun x => rfl, fun x => rfl, fun x a h => by rw [dInt_x (show dInt .u8 x = some a from h)]; exact .refl _, fun x => rfl, fun x a h => by rw [dInt_x (show dInt .u8 x = some a from h)]; rfl, fun x a h => by rw [dInt_x (show dInt .u8 x = some a from h)]; rfl, fun a => rfl, fun a => noids_one (NoId.v _), fun ks h a b => by cases h; simp [eqCells, scal, C, celT, cel5, beqT, beq5], fun l s h => ⟨rfl, (unbytes_int l).trans h⟩, fun s l h => ⟨rfl, by cases h; show (bytesI s).map cel5 = _; simp [bytesI, cel5, byteCell]⟩⟩
theorem law9 : CodAt C 9 := ⟨fun x => rfl, fun x => rfl, fun x a h => by rw [dStr_x (show dStr x = some a from h)]; exact .refl _, fun x => rfl, fun x a h => by rw [dStr_x (show dStr x = some a from h)]; rfl, fun x a h => by rw [dStr_x (show dStr x = some a from h)]; rfl, fun a => rfl, fun a => noids_one (NoId.v _), fun ks h a b => by cases h; simp [eqCells, scal, C, celT, cel9, beqT, beq9], (fun l s h => nomatch h), (fun s l h => nomatch h)⟩
theorem law12 : CodAt C 12 := ⟨fun x => rfl, fun x => rfl, fun x a h => by rw [dInt_x (show dInt .u64 x = some a from h)]; exact .refl _, fun x => rfl, fun x a h => by rw [dInt_x (show dInt .u64 x = some a from h)]; rfl, fun x a h => by rw [dInt_x (show dInt .u64 x = some a from h)]; rfl, fun a => rfl, fun a => noids_one (NoId.v _), fun ks h a b => by cases h; simp [eqCells, scal, C, celT, cel12, beqT, beq12], (fun l s h => nomatch h), (fun s l h => nomatch h)⟩
theorem law21 : CodAt C 21 := ⟨fun x => rfl, fun x => rfl, fun x a h => by rw [dInt_x (show dInt .i32 x = some a from h)]; exact .refl _, fun x => rfl, fun x a h => by rw [dInt_x (show dInt .i32 x = some a from h)]; rfl, fun x a h => by rw [dInt_x (show dInt .i32 x = some a from h)]; rfl, fun a => rfl, fun a => noids_one (NoId.v _), fun ks h a b => by cases h; simp [eqCells, scal, C, celT, cel21, beqT, beq21], (fun l s h => nomatch h), (fun s l h => nomatch h)⟩
theorem law22 : CodAt C 22 := ⟨fun x => rfl, fun x => length_flat law3 x, fun x a h => by rw [dArr_x (show dArr 3 8 x = some a from h)]; exact .refl _, fun x => rfl, fun x a h => by rw [dArr_x (show dArr 3 8 x = some a from h)]; rfl, fun x a h => by rw [dArr_x (show dArr 3 8 x = some a from h)]; rfl, fun a => one_flat law3 a.toList, fun a => noid_flat law3 a.toList, fun ks h a b => by have := eqCells_arr' law3 (show C.kd 3 = some _ from rfl) a.toList b.toList (by simp); simp only [Vector.length_toList] at this; cases h; exact this, (fun l s h => nomatch h), (fun s l h => nomatch h)⟩
theorem law23 : CodAt C 23 := ⟨fun x => rfl, fun x => length_flat law2 x, fun x a h => by rw [dArr_x (show dArr 2 8 x = some a from h)]; exact .refl _, fun x => rfl, fun x a h => by rw [dArr_x (show dArr 2 8 x = some a from h)]; rfl, fun x a h => by rw [dArr_x (show dArr 2 8 x = some a from h)]; rfl, fun a => one_flat law2 a.toList, fun a => noid_flat law2 a.toList, fun ks h a b => by have := eqCells_arr' law2 (show C.kd 2 = some _ from rfl) a.toList b.toList (by simp); simp only [Vector.length_toList] at this; cases h; exact this, (fun l s h => nomatch h), (fun s l h => nomatch h)⟩
theorem law24 : CodAt C 24 := ⟨fun x => rfl, fun x => length_flat law2 x, fun x a h => by rw [dArr_x (show dArr 2 8 x = some a from h)]; exact .refl _, fun x => rfl, fun x a h => by rw [dArr_x (show dArr 2 8 x = some a from h)]; rfl, fun x a h => by rw [dArr_x (show dArr 2 8 x = some a from h)]; rfl, fun a => one_flat law2 a.toList, fun a => noid_flat law2 a.toList, fun ks h a b => by have := eqCells_arr' law2 (show C.kd 2 = some _ from rfl) a.toList b.toList (by simp); simp only [Vector.length_toList] at this; cases h; exact this, (fun l s h => nomatch h), (fun s l h => nomatch h)⟩
theorem decx25 {x : TV τ} {a : GEpoch} (h : dec25 x = some a) : ∃ x0 x1 x2 x3, x = .agg [x0, x1, x2, x3] ∧ dec2 x0 = some a.Number ∧ dec22 x1 = some a.States ∧ dec24 x2 = some a.Seals ∧ dec22 x3 = some a.Sponsor := by
  unfold dec25 at h
  split at h
  · rename_i x0 x1 x2 x3
    split at h
    · rename_i a0 h0
      split at h
      · rename_i a1 h1
        split at h
        · rename_i a2 h2
          split at h
          · rename_i a3 h3
            cases h
            exact ⟨_, _, _, _, rfl, h0, h1, h2, h3⟩
          · cases h
        · cases h
      · cases h
    · cases h
  · cases h
theorem law25 : CodAt C 25 := ⟨fun x => app_eq (law2.cel _) (app_eq (law22.cel _) (app_eq (law24.cel _) (app_eq (law22.cel _) (rfl)))), fun x => len_app (law2.len _) (len_app (law22.len _) (len_app (law24.len _) (len_app (law22.len _) (rfl)))), fun x a h => by obtain ⟨x0, x1, x2, x3, rfl, h0, h1, h2, h3⟩ := decx25 h; exact CW.append (law2.dec _ _ h0) (CW.append (law22.dec _ _ h1) (CW.append (law24.dec _ _ h2) (CW.append (law22.dec _ _ h3) (CW.refl [])))), fun x => have q := ok_and (law2.ok x.Number) (ok_and (law22.ok x.States) (ok_and (law24.ok x.Seals) (ok_and (law22.ok x.Sponsor) (ok_t)))); q, fun x a h => by obtain ⟨x0, x1, x2, x3, rfl, h0, h1, h2, h3⟩ := decx25 h; exact ok_and (law2.decok _ _ h0) (ok_and (law22.decok _ _ h1) (ok_and (law24.decok _ _ h2) (ok_and (law22.decok _ _ h3) (rfl)))), fun x a h => by obtain ⟨x0, x1, x2, x3, rfl, h0, h1, h2, h3⟩ := decx25 h; rfl, fun x => all_app (law2.one _) (all_app (law22.one _) (all_app (law24.one _) (all_app (law22.one _) (rfl)))), fun x => noids_app (law2.noid _) (noids_app (law22.noid _) (noids_app (law24.noid _) (noids_app (law22.noid _) (trivial)))), fun ks h a b => by have := eqCells_append (law2.kd _ rfl a.Number b.Number) (eqCells_append (law22.kd _ rfl a.States b.States) (eqCells_append (law24.kd _ rfl a.Seals b.Seals) (eqCells_append (law22.kd _ rfl a.Sponsor b.Sponsor) ((show eqCells [] [] [] = some true from rfl))))); cases h; exact this, (fun l s h => nomatch h), (fun s l h => nomatch h)⟩
theorem law26 : CodAt C 26 := let q := law25; ⟨q.cel, q.len, q.dec, q.ok, q.decok, q.agg, q.one, q.noid, q.kd, q.b2s, q.s2b⟩
theorem decx122 {x : TV τ} {a : GAttr} (h : dec122 x = some a) : ∃ x0 x1, x = .agg [x0, x1] ∧ dec9 x0 = some a.Key ∧ dec9 x1 = some a.Value := by
  unfold dec122 at h
  split at h
  · rename_i x0 x1
    split at h
    · rename_i a0 h0
      split at h
      · rename_i a1 h1
        cases h
        exact ⟨_, _, rfl, h0, h1⟩
      · cases h
    · cases h
  · cases h
theorem law122 : CodAt C 122 := ⟨fun x => app_eq (law9.cel _) (app_eq (law9.cel _) (rfl)), fun x => len_app (law9.len _) (len_app (law9.len _) (rfl)), fun x a h => by obtain ⟨x0, x1, rfl, h0, h1⟩ := decx122 h; exact CW.append (law9.dec _ _ h0) (CW.append (law9.dec _ _ h1) (CW.refl [])), fun x => have q := ok_and (law9.ok x.Key) (ok_and (law9.ok x.Value) (ok_t)); q, fun x a h => by obtain ⟨x0, x1, rfl, h0, h1⟩ := decx122 h; exact ok_and (law9.decok _ _ h0) (ok_and (law9.decok _ _ h1) (rfl)), fun x a h => by obtain ⟨x0, x1, rfl, h0, h1⟩ := decx122 h; rfl, fun x => all_app (law9.one _) (all_app (law9.one _) (rfl)), fun x => noids_app (law9.noid _) (noids_app (law9.noid _) (trivial)), fun ks h a b => by have := eqCells_append (law9.kd _ rfl a.Key b.Key) (eqCells_append (law9.kd _ rfl a.Value b.Value) ((show eqCells [] [] [] = some true from rfl))); cases h; exact this, (fun l s h => nomatch h), (fun s l h => nomatch h)⟩
theorem law113 : CodAt C 113 := ⟨fun x => rfl, fun x => rfl, fun x a h => (dSl_cw (C := C) (show dSl 122 x = some a from h)).1, fun x => rfl, fun x a h => (dSl_cw (C := C) (show dSl 122 x = some a from h)).2.1, fun x a h => (dSl_cw (C := C) (show dSl 122 x = some a from h)).2.2, fun a => rfl, fun a => noids_one (NoId.asl fun cs hc => by obtain ⟨y, _, rfl⟩ := List.mem_map.1 hc; exact law122.noid y), (fun ks h => nomatch h), (fun l s h => nomatch h), (fun s l h => nomatch h)⟩
theorem decx115 {x : TV τ} {a : GTreeNode} (h : dec115 x = some a) : ∃ x0 x1 x2 x3, x = .agg [x0, x1, x2, x3] ∧ dec2 x0 = some a.Node ∧ dec2 x1 = some a.Parent ∧ dec9 x2 = some a.Name ∧ dec113 x3 = some a.Attrs := by
  unfold dec115 at h
  split at h
  · rename_i x0 x1 x2 x3
    split at h
    · rename_i a0 h0
      split at h
      · rename_i a1 h1
        split at h
        · rename_i a2 h2
          split at h
          · rename_i a3 h3
            cases h
            exact ⟨_, _, _, _, rfl, h0, h1, h2, h3⟩
          · cases h
        · cases h
      · cases h
    · cases h
  · cases h
theorem law115 : CodAt C 115 := ⟨fun x => app_eq (law2.cel _) (app_eq (law2.cel _) (app_eq (law9.cel _) (app_eq (law113.cel _) (rfl)))), fun x => len_app (law2.len _) (len_app (law2.len _) (len_app (law9.len _) (len_app (law113.len _) (rfl)))), fun x a h => by obtain ⟨x0, x1, x2, x3, rfl, h0, h1, h2, h3⟩ := decx115 h; exact CW.append (law2.dec _ _ h0) (CW.append (law2.dec _ _ h1) (CW.append (law9.dec _ _ h2) (CW.append (law113.dec _ _ h3) (CW.refl [])))), fun x => have q := ok_and (law2.ok x.Node) (ok_and (law2.ok x.Parent) (ok_and (law9.ok x.Name) (ok_and (law113.ok x.Attrs) (ok_t)))); q, fun x a h => by obtain ⟨x0, x1, x2, x3, rfl, h0, h1, h2, h3⟩ := decx115 h; exact ok_and (law2.decok _ _ h0) (ok_and (law2.decok _ _ h1) (ok_and (law9.decok _ _ h2) (ok_and (law113.decok _ _ h3) (rfl)))), fun x a h => by obtain ⟨x0, x1, x2, x3, rfl, h0, h1, h2, h3⟩ := decx115 h; rfl, fun x => all_app (law2.one _) (all_app (law2.one _) (all_app (law9.one _) (all_app (law113.one _) (rfl)))), fun x => noids_app (law2.noid _) (noids_app (law2.noid _) (noids_app (law9.noid _) (noids_app (law113.noid _) (trivial)))), (fun ks h => nomatch h), (fun l s h => nomatch h), (fun s l h => nomatch h)⟩
theorem law27 : CodAt C 27 := ⟨fun x => rfl, fun x => rfl, fun x a h => (dSl_cw (C := C) (show dSl 115 x = some a from h)).1, fun x => rfl, fun x a h => (dSl_cw (C := C) (show dSl 115 x = some a from h)).2.1, fun x a h => (dSl_cw (C := C) (show dSl 115 x = some a from h)).2.2, fun a => rfl, fun a => noids_one (NoId.asl fun cs hc => by obtain ⟨y, _, rfl⟩ := List.mem_map.1 hc; exact law115.noid y), (fun ks h => nomatch h), (fun l s h => nomatch h), (fun s l h => nomatch h)⟩
theorem decx47 {x : TV τ} {a : GStamp} (h : dec47 x = some a) : ∃ x0 x1, x = .agg [x0, x1] ∧ dec2 x0 = some a.Time ∧ dec3 x1 = some a.Site := by
  unfold dec47 at h
  split at h
  · rename_i x0 x1
    split at h
    · rename_i a0 h0
      split at h
      · rename_i a1 h1
        cases h
        exact ⟨_, _, rfl, h0, h1⟩
      · cases h
    · cases h
  · cases h
theorem law47 : CodAt C 47 := ⟨fun x => app_eq (law2.cel _) (app_eq (law3.cel _) (rfl)), fun x => len_app (law2.len _) (len_app (law3.len _) (rfl)), fun x a h => by obtain ⟨x0, x1, rfl, h0, h1⟩ := decx47 h; exact CW.append (law2.dec _ _ h0) (CW.append (law3.dec _ _ h1) (CW.refl [])), fun x => have q := ok_and (law2.ok x.Time) (ok_and (law3.ok x.Site) (ok_t)); q, fun x a h => by obtain ⟨x0, x1, rfl, h0, h1⟩ := decx47 h; exact ok_and (law2.decok _ _ h0) (ok_and (law3.decok _ _ h1) (rfl)), fun x a h => by obtain ⟨x0, x1, rfl, h0, h1⟩ := decx47 h; rfl, fun x => all_app (law2.one _) (all_app (law3.one _) (rfl)), fun x => noids_app (law2.noid _) (noids_app (law3.noid _) (trivial)), fun ks h a b => by have := eqCells_append (law2.kd _ rfl a.Time b.Time) (eqCells_append (law3.kd _ rfl a.Site b.Site) ((show eqCells [] [] [] = some true from rfl))); cases h; exact this, (fun l s h => nomatch h), (fun s l h => nomatch h)⟩
theorem decx49 {x : TV τ} {a : GOp} (h : dec49 x = some a) : ∃ x0 x1 x2 x3 x4 x5 x6, x = .agg [x0, x1, x2, x3, x4, x5, x6] ∧ dec47 x0 = some a.Stamp ∧ dec3 x1 = some a.Kind ∧ dec2 x2 = some a.Node ∧ dec2 x3 = some a.Parent ∧ dec9 x4 = some a.Name ∧ dec9 x5 = some a.Key ∧ dec9 x6 = some a.Value := by
  unfold dec49 at h
  split at h
  · rename_i x0 x1 x2 x3 x4 x5 x6
    split at h
    · rename_i a0 h0
      split at h
      · rename_i a1 h1
        split at h
        · rename_i a2 h2
          split at h
          · rename_i a3 h3
            split at h
            · rename_i a4 h4
              split at h
              · rename_i a5 h5
                split at h
                · rename_i a6 h6
                  cases h
                  exact ⟨_, _, _, _, _, _, _, rfl, h0, h1, h2, h3, h4, h5, h6⟩
                · cases h
              · cases h
            · cases h
          · cases h
        · cases h
      · cases h
    · cases h
  · cases h
theorem law49 : CodAt C 49 := ⟨fun x => app_eq (law47.cel _) (app_eq (law3.cel _) (app_eq (law2.cel _) (app_eq (law2.cel _) (app_eq (law9.cel _) (app_eq (law9.cel _) (app_eq (law9.cel _) (rfl))))))), fun x => len_app (law47.len _) (len_app (law3.len _) (len_app (law2.len _) (len_app (law2.len _) (len_app (law9.len _) (len_app (law9.len _) (len_app (law9.len _) (rfl))))))), fun x a h => by obtain ⟨x0, x1, x2, x3, x4, x5, x6, rfl, h0, h1, h2, h3, h4, h5, h6⟩ := decx49 h; exact CW.append (law47.dec _ _ h0) (CW.append (law3.dec _ _ h1) (CW.append (law2.dec _ _ h2) (CW.append (law2.dec _ _ h3) (CW.append (law9.dec _ _ h4) (CW.append (law9.dec _ _ h5) (CW.append (law9.dec _ _ h6) (CW.refl []))))))), fun x => have q := ok_and (law47.ok x.Stamp) (ok_and (law3.ok x.Kind) (ok_and (law2.ok x.Node) (ok_and (law2.ok x.Parent) (ok_and (law9.ok x.Name) (ok_and (law9.ok x.Key) (ok_and (law9.ok x.Value) (ok_t))))))); q, fun x a h => by obtain ⟨x0, x1, x2, x3, x4, x5, x6, rfl, h0, h1, h2, h3, h4, h5, h6⟩ := decx49 h; exact ok_and (law47.decok _ _ h0) (ok_and (law3.decok _ _ h1) (ok_and (law2.decok _ _ h2) (ok_and (law2.decok _ _ h3) (ok_and (law9.decok _ _ h4) (ok_and (law9.decok _ _ h5) (ok_and (law9.decok _ _ h6) (rfl))))))), fun x a h => by obtain ⟨x0, x1, x2, x3, x4, x5, x6, rfl, h0, h1, h2, h3, h4, h5, h6⟩ := decx49 h; rfl, fun x => all_app (law47.one _) (all_app (law3.one _) (all_app (law2.one _) (all_app (law2.one _) (all_app (law9.one _) (all_app (law9.one _) (all_app (law9.one _) (rfl))))))), fun x => noids_app (law47.noid _) (noids_app (law3.noid _) (noids_app (law2.noid _) (noids_app (law2.noid _) (noids_app (law9.noid _) (noids_app (law9.noid _) (noids_app (law9.noid _) (trivial))))))), fun ks h a b => by have := eqCells_append (law47.kd _ rfl a.Stamp b.Stamp) (eqCells_append (law3.kd _ rfl a.Kind b.Kind) (eqCells_append (law2.kd _ rfl a.Node b.Node) (eqCells_append (law2.kd _ rfl a.Parent b.Parent) (eqCells_append (law9.kd _ rfl a.Name b.Name) (eqCells_append (law9.kd _ rfl a.Key b.Key) (eqCells_append (law9.kd _ rfl a.Value b.Value) ((show eqCells [] [] [] = some true from rfl)))))))); cases h; exact this, (fun l s h => nomatch h), (fun s l h => nomatch h)⟩
theorem law28 : CodAt C 28 := ⟨fun x => rfl, fun x => rfl, fun x a h => (dSl_cw (C := C) (show dSl 49 x = some a from h)).1, fun x => rfl, fun x a h => (dSl_cw (C := C) (show dSl 49 x = some a from h)).2.1, fun x a h => (dSl_cw (C := C) (show dSl 49 x = some a from h)).2.2, fun a => rfl, fun a => noids_one (NoId.asl fun cs hc => by obtain ⟨y, _, rfl⟩ := List.mem_map.1 hc; exact law49.noid y), (fun ks h => nomatch h), (fun l s h => nomatch h), (fun s l h => nomatch h)⟩
theorem law29 : CodAt C 29 := ⟨fun x => rfl, fun x => length_flat law28 x, fun x a h => by rw [dArr_x (show dArr 28 8 x = some a from h)]; exact .refl _, fun x => rfl, fun x a h => by rw [dArr_x (show dArr 28 8 x = some a from h)]; rfl, fun x a h => by rw [dArr_x (show dArr 28 8 x = some a from h)]; rfl, fun a => one_flat law28 a.toList, fun a => noid_flat law28 a.toList, (fun ks h => nomatch h), (fun l s h => nomatch h), (fun s l h => nomatch h)⟩
theorem law30 : CodAt C 30 := ⟨fun x => rfl, fun x => length_flat law24 x, fun x a h => by rw [dArr_x (show dArr 24 8 x = some a from h)]; exact .refl _, fun x => rfl, fun x a h => by rw [dArr_x (show dArr 24 8 x = some a from h)]; rfl, fun x a h => by rw [dArr_x (show dArr 24 8 x = some a from h)]; rfl, fun a => one_flat law24 a.toList, fun a => noid_flat law24 a.toList, fun ks h a b => by have := eqCells_arr' law24 (show C.kd 24 = some _ from rfl) a.toList b.toList (by simp); simp only [Vector.length_toList] at this; cases h; exact this, (fun l s h => nomatch h), (fun s l h => nomatch h)⟩
theorem law74 : CodAt C 74 := ⟨fun x => rfl, fun x => rfl, fun x a h => by rw [dInt_x (show dInt .i64 x = some a from h)]; exact .refl _, fun x => rfl, fun x a h => by rw [dInt_x (show dInt .i64 x = some a from h)]; rfl, fun x a h => by rw [dInt_x (show dInt .i64 x = some a from h)]; rfl, fun a => rfl, fun a => noids_one (NoId.v _), fun ks h a b => by cases h; simp [eqCells, scal, C, celT, cel74, beqT, beq74], (fun l s h => nomatch h), (fun s l h => nomatch h)⟩
theorem decx117 {x : TV τ} {a : GReply} (h : dec117 x = some a) : ∃ x0 x1 x2, x = .agg [x0, x1, x2] ∧ dec74 x0 = some a.Err ∧ dec47 x1 = some a.Stamp ∧ dec2 x2 = some a.Node := by
  unfold dec117 at h
  split at h
  · rename_i x0 x1 x2
    split at h
    · rename_i a0 h0
      split at h
      · rename_i a1 h1
        split at h
        · rename_i a2 h2
          cases h
          exact ⟨_, _, _, rfl, h0, h1, h2⟩
        · cases h
      · cases h
    · cases h
  · cases h
theorem law117 : CodAt C 117 := ⟨fun x => app_eq (law74.cel _) (app_eq (law47.cel _) (app_eq (law2.cel _) (rfl))), fun x => len_app (law74.len _) (len_app (law47.len _) (len_app (law2.len _) (rfl))), fun x a h => by obtain ⟨x0, x1, x2, rfl, h0, h1, h2⟩ := decx117 h; exact CW.append (law74.dec _ _ h0) (CW.append (law47.dec _ _ h1) (CW.append (law2.dec _ _ h2) (CW.refl []))), fun x => have q := ok_and (law74.ok x.Err) (ok_and (law47.ok x.Stamp) (ok_and (law2.ok x.Node) (ok_t))); q, fun x a h => by obtain ⟨x0, x1, x2, rfl, h0, h1, h2⟩ := decx117 h; exact ok_and (law74.decok _ _ h0) (ok_and (law47.decok _ _ h1) (ok_and (law2.decok _ _ h2) (rfl))), fun x a h => by obtain ⟨x0, x1, x2, rfl, h0, h1, h2⟩ := decx117 h; rfl, fun x => all_app (law74.one _) (all_app (law47.one _) (all_app (law2.one _) (rfl))), fun x => noids_app (law74.noid _) (noids_app (law47.noid _) (noids_app (law2.noid _) (trivial))), fun ks h a b => by have := eqCells_append (law74.kd _ rfl a.Err b.Err) (eqCells_append (law47.kd _ rfl a.Stamp b.Stamp) (eqCells_append (law2.kd _ rfl a.Node b.Node) ((show eqCells [] [] [] = some true from rfl)))); cases h; exact this, (fun l s h => nomatch h), (fun s l h => nomatch h)⟩
theorem decx119 {x : TV τ} {a : GRow} (h : dec119 x = some a) : ∃ x0 x1 x2, x = .agg [x0, x1, x2] ∧ dec2 x0 = some a.Session ∧ dec2 x1 = some a.Request ∧ dec117 x2 = some a.Reply := by
  unfold dec119 at h
  split at h
  · rename_i x0 x1 x2
    split at h
    · rename_i a0 h0
      split at h
      · rename_i a1 h1
        split at h
        · rename_i a2 h2
          cases h
          exact ⟨_, _, _, rfl, h0, h1, h2⟩
        · cases h
      · cases h
    · cases h
  · cases h
theorem law119 : CodAt C 119 := ⟨fun x => app_eq (law2.cel _) (app_eq (law2.cel _) (app_eq (law117.cel _) (rfl))), fun x => len_app (law2.len _) (len_app (law2.len _) (len_app (law117.len _) (rfl))), fun x a h => by obtain ⟨x0, x1, x2, rfl, h0, h1, h2⟩ := decx119 h; exact CW.append (law2.dec _ _ h0) (CW.append (law2.dec _ _ h1) (CW.append (law117.dec _ _ h2) (CW.refl []))), fun x => have q := ok_and (law2.ok x.Session) (ok_and (law2.ok x.Request) (ok_and (law117.ok x.Reply) (ok_t))); q, fun x a h => by obtain ⟨x0, x1, x2, rfl, h0, h1, h2⟩ := decx119 h; exact ok_and (law2.decok _ _ h0) (ok_and (law2.decok _ _ h1) (ok_and (law117.decok _ _ h2) (rfl))), fun x a h => by obtain ⟨x0, x1, x2, rfl, h0, h1, h2⟩ := decx119 h; rfl, fun x => all_app (law2.one _) (all_app (law2.one _) (all_app (law117.one _) (rfl))), fun x => noids_app (law2.noid _) (noids_app (law2.noid _) (noids_app (law117.noid _) (trivial))), fun ks h a b => by have := eqCells_append (law2.kd _ rfl a.Session b.Session) (eqCells_append (law2.kd _ rfl a.Request b.Request) (eqCells_append (law117.kd _ rfl a.Reply b.Reply) ((show eqCells [] [] [] = some true from rfl)))); cases h; exact this, (fun l s h => nomatch h), (fun s l h => nomatch h)⟩
theorem law31 : CodAt C 31 := ⟨fun x => rfl, fun x => rfl, fun x a h => (dSl_cw (C := C) (show dSl 119 x = some a from h)).1, fun x => rfl, fun x a h => (dSl_cw (C := C) (show dSl 119 x = some a from h)).2.1, fun x a h => (dSl_cw (C := C) (show dSl 119 x = some a from h)).2.2, fun a => rfl, fun a => noids_one (NoId.asl fun cs hc => by obtain ⟨y, _, rfl⟩ := List.mem_map.1 hc; exact law119.noid y), (fun ks h => nomatch h), (fun l s h => nomatch h), (fun s l h => nomatch h)⟩
theorem law50 : CodAt C 50 := ⟨fun x => rfl, fun x => rfl, fun x a h => (dSl_cw (C := C) (show dSl 5 x = some a from h)).1, fun x => rfl, fun x a h => (dSl_cw (C := C) (show dSl 5 x = some a from h)).2.1, fun x a h => (dSl_cw (C := C) (show dSl 5 x = some a from h)).2.2, fun a => rfl, fun a => noids_one (NoId.asl fun cs hc => by obtain ⟨y, _, rfl⟩ := List.mem_map.1 hc; exact law5.noid y), (fun ks h => nomatch h), (fun l s h => nomatch h), (fun s l h => nomatch h)⟩
theorem decx52 {x : TV τ} {a : GPart} (h : dec52 x = some a) : ∃ x0 x1 x2 x3, x = .agg [x0, x1, x2, x3] ∧ dec2 x0 = some a.Snap ∧ dec3 x1 = some a.Index ∧ dec3 x2 = some a.Many ∧ dec50 x3 = some a.Data := by
  unfold dec52 at h
  split at h
  · rename_i x0 x1 x2 x3
    split at h
    · rename_i a0 h0
      split at h
      · rename_i a1 h1
        split at h
        · rename_i a2 h2
          split at h
          · rename_i a3 h3
            cases h
            exact ⟨_, _, _, _, rfl, h0, h1, h2, h3⟩
          · cases h
        · cases h
      · cases h
    · cases h
  · cases h
theorem law52 : CodAt C 52 := ⟨fun x => app_eq (law2.cel _) (app_eq (law3.cel _) (app_eq (law3.cel _) (app_eq (law50.cel _) (rfl)))), fun x => len_app (law2.len _) (len_app (law3.len _) (len_app (law3.len _) (len_app (law50.len _) (rfl)))), fun x a h => by obtain ⟨x0, x1, x2, x3, rfl, h0, h1, h2, h3⟩ := decx52 h; exact CW.append (law2.dec _ _ h0) (CW.append (law3.dec _ _ h1) (CW.append (law3.dec _ _ h2) (CW.append (law50.dec _ _ h3) (CW.refl [])))), fun x => have q := ok_and (law2.ok x.Snap) (ok_and (law3.ok x.Index) (ok_and (law3.ok x.Many) (ok_and (law50.ok x.Data) (ok_t)))); q, fun x a h => by obtain ⟨x0, x1, x2, x3, rfl, h0, h1, h2, h3⟩ := decx52 h; exact ok_and (law2.decok _ _ h0) (ok_and (law3.decok _ _ h1) (ok_and (law3.decok _ _ h2) (ok_and (law50.decok _ _ h3) (rfl)))), fun x a h => by obtain ⟨x0, x1, x2, x3, rfl, h0, h1, h2, h3⟩ := decx52 h; rfl, fun x => all_app (law2.one _) (all_app (law3.one _) (all_app (law3.one _) (all_app (law50.one _) (rfl)))), fun x => noids_app (law2.noid _) (noids_app (law3.noid _) (noids_app (law3.noid _) (noids_app (law50.noid _) (trivial)))), (fun ks h => nomatch h), (fun l s h => nomatch h), (fun s l h => nomatch h)⟩
theorem law32 : CodAt C 32 := ⟨fun x => rfl, fun x => rfl, fun x a h => (dSl_cw (C := C) (show dSl 52 x = some a from h)).1, fun x => rfl, fun x a h => (dSl_cw (C := C) (show dSl 52 x = some a from h)).2.1, fun x a h => (dSl_cw (C := C) (show dSl 52 x = some a from h)).2.2, fun a => rfl, fun a => noids_one (NoId.asl fun cs hc => by obtain ⟨y, _, rfl⟩ := List.mem_map.1 hc; exact law52.noid y), (fun ks h => nomatch h), (fun l s h => nomatch h), (fun s l h => nomatch h)⟩
theorem decx33 {x : TV τ} {a : GSnap} (h : dec33 x = some a) : ∃ x0 x1 x2 x3 x4 x5 x6 x7 x8 x9 x10 x11 x12 x13 x14 x15 x16 x17, x = .agg [x0, x1, x2, x3, x4, x5, x6, x7, x8, x9, x10, x11, x12, x13, x14, x15, x16, x17] ∧ dec3 x0 = some a.Site ∧ dec2 x1 = some a.Applied ∧ dec4 x2 = some a.Booted ∧ dec26 x3 = some a.Epoch ∧ dec2 x4 = some a.Clock ∧ dec24 x5 = some a.Vector_ ∧ dec24 x6 = some a.Last ∧ dec27 x7 = some a.Base ∧ dec28 x8 = some a.Log ∧ dec2 x9 = some a.Frontier ∧ dec24 x10 = some a.Starts ∧ dec29 x11 = some a.Kept ∧ dec30 x12 = some a.Known ∧ dec24 x13 = some a.Told ∧ dec24 x14 = some a.Clocks ∧ dec24 x15 = some a.Sure ∧ dec31 x16 = some a.Rows ∧ dec32 x17 = some a.Parts := by
  unfold dec33 at h
  split at h
  · rename_i x0 x1 x2 x3 x4 x5 x6 x7 x8 x9 x10 x11 x12 x13 x14 x15 x16 x17
    split at h
    · rename_i a0 h0
      split at h
      · rename_i a1 h1
        split at h
        · rename_i a2 h2
          split at h
          · rename_i a3 h3
            split at h
            · rename_i a4 h4
              split at h
              · rename_i a5 h5
                split at h
                · rename_i a6 h6
                  split at h
                  · rename_i a7 h7
                    split at h
                    · rename_i a8 h8
                      split at h
                      · rename_i a9 h9
                        split at h
                        · rename_i a10 h10
                          split at h
                          · rename_i a11 h11
                            split at h
                            · rename_i a12 h12
                              split at h
                              · rename_i a13 h13
                                split at h
                                · rename_i a14 h14
                                  split at h
                                  · rename_i a15 h15
                                    split at h
                                    · rename_i a16 h16
                                      split at h
                                      · rename_i a17 h17
                                        cases h
                                        exact ⟨_, _, _, _, _, _, _, _, _, _, _, _, _, _, _, _, _, _, rfl, h0, h1, h2, h3, h4, h5, h6, h7, h8, h9, h10, h11, h12, h13, h14, h15, h16, h17⟩
                                      · cases h
                                    · cases h
                                  · cases h
                                · cases h
                              · cases h
                            · cases h
                          · cases h
                        · cases h
                      · cases h
                    · cases h
                  · cases h
                · cases h
              · cases h
            · cases h
          · cases h
        · cases h
      · cases h
    · cases h
  · cases h
theorem law33 : CodAt C 33 := ⟨fun x => app_eq (law3.cel _) (app_eq (law2.cel _) (app_eq (law4.cel _) (app_eq (law26.cel _) (app_eq (law2.cel _) (app_eq (law24.cel _) (app_eq (law24.cel _) (app_eq (law27.cel _) (app_eq (law28.cel _) (app_eq (law2.cel _) (app_eq (law24.cel _) (app_eq (law29.cel _) (app_eq (law30.cel _) (app_eq (law24.cel _) (app_eq (law24.cel _) (app_eq (law24.cel _) (app_eq (law31.cel _) (app_eq (law32.cel _) (rfl)))))))))))))))))), fun x => len_app (law3.len _) (len_app (law2.len _) (len_app (law4.len _) (len_app (law26.len _) (len_app (law2.len _) (len_app (law24.len _) (len_app (law24.len _) (len_app (law27.len _) (len_app (law28.len _) (len_app (law2.len _) (len_app (law24.len _) (len_app (law29.len _) (len_app (law30.len _) (len_app (law24.len _) (len_app (law24.len _) (len_app (law24.len _) (len_app (law31.len _) (len_app (law32.len _) (rfl)))))))))))))))))), fun x a h => by obtain ⟨x0, x1, x2, x3, x4, x5, x6, x7, x8, x9, x10, x11, x12, x13, x14, x15, x16, x17, rfl, h0, h1, h2, h3, h4, h5, h6, h7, h8, h9, h10, h11, h12, h13, h14, h15, h16, h17⟩ := decx33 h; exact CW.append (law3.dec _ _ h0) (CW.append (law2.dec _ _ h1) (CW.append (law4.dec _ _ h2) (CW.append (law26.dec _ _ h3) (CW.append (law2.dec _ _ h4) (CW.append (law24.dec _ _ h5) (CW.append (law24.dec _ _ h6) (CW.append (law27.dec _ _ h7) (CW.append (law28.dec _ _ h8) (CW.append (law2.dec _ _ h9) (CW.append (law24.dec _ _ h10) (CW.append (law29.dec _ _ h11) (CW.append (law30.dec _ _ h12) (CW.append (law24.dec _ _ h13) (CW.append (law24.dec _ _ h14) (CW.append (law24.dec _ _ h15) (CW.append (law31.dec _ _ h16) (CW.append (law32.dec _ _ h17) (CW.refl [])))))))))))))))))), fun x => have q := ok_and (law3.ok x.Site) (ok_and (law2.ok x.Applied) (ok_and (law4.ok x.Booted) (ok_and (law26.ok x.Epoch) (ok_and (law2.ok x.Clock) (ok_and (law24.ok x.Vector_) (ok_and (law24.ok x.Last) (ok_and (law27.ok x.Base) (ok_and (law28.ok x.Log) (ok_and (law2.ok x.Frontier) (ok_and (law24.ok x.Starts) (ok_and (law29.ok x.Kept) (ok_and (law30.ok x.Known) (ok_and (law24.ok x.Told) (ok_and (law24.ok x.Clocks) (ok_and (law24.ok x.Sure) (ok_and (law31.ok x.Rows) (ok_and (law32.ok x.Parts) (ok_t)))))))))))))))))); q, fun x a h => by obtain ⟨x0, x1, x2, x3, x4, x5, x6, x7, x8, x9, x10, x11, x12, x13, x14, x15, x16, x17, rfl, h0, h1, h2, h3, h4, h5, h6, h7, h8, h9, h10, h11, h12, h13, h14, h15, h16, h17⟩ := decx33 h; exact ok_and (law3.decok _ _ h0) (ok_and (law2.decok _ _ h1) (ok_and (law4.decok _ _ h2) (ok_and (law26.decok _ _ h3) (ok_and (law2.decok _ _ h4) (ok_and (law24.decok _ _ h5) (ok_and (law24.decok _ _ h6) (ok_and (law27.decok _ _ h7) (ok_and (law28.decok _ _ h8) (ok_and (law2.decok _ _ h9) (ok_and (law24.decok _ _ h10) (ok_and (law29.decok _ _ h11) (ok_and (law30.decok _ _ h12) (ok_and (law24.decok _ _ h13) (ok_and (law24.decok _ _ h14) (ok_and (law24.decok _ _ h15) (ok_and (law31.decok _ _ h16) (ok_and (law32.decok _ _ h17) (rfl)))))))))))))))))), fun x a h => by obtain ⟨x0, x1, x2, x3, x4, x5, x6, x7, x8, x9, x10, x11, x12, x13, x14, x15, x16, x17, rfl, h0, h1, h2, h3, h4, h5, h6, h7, h8, h9, h10, h11, h12, h13, h14, h15, h16, h17⟩ := decx33 h; rfl, fun x => all_app (law3.one _) (all_app (law2.one _) (all_app (law4.one _) (all_app (law26.one _) (all_app (law2.one _) (all_app (law24.one _) (all_app (law24.one _) (all_app (law27.one _) (all_app (law28.one _) (all_app (law2.one _) (all_app (law24.one _) (all_app (law29.one _) (all_app (law30.one _) (all_app (law24.one _) (all_app (law24.one _) (all_app (law24.one _) (all_app (law31.one _) (all_app (law32.one _) (rfl)))))))))))))))))), fun x => noids_app (law3.noid _) (noids_app (law2.noid _) (noids_app (law4.noid _) (noids_app (law26.noid _) (noids_app (law2.noid _) (noids_app (law24.noid _) (noids_app (law24.noid _) (noids_app (law27.noid _) (noids_app (law28.noid _) (noids_app (law2.noid _) (noids_app (law24.noid _) (noids_app (law29.noid _) (noids_app (law30.noid _) (noids_app (law24.noid _) (noids_app (law24.noid _) (noids_app (law24.noid _) (noids_app (law31.noid _) (noids_app (law32.noid _) (trivial)))))))))))))))))), (fun ks h => nomatch h), (fun l s h => nomatch h), (fun s l h => nomatch h)⟩
theorem law34 : CodAt C 34 := let q := law33; ⟨q.cel, q.len, q.dec, q.ok, q.decok, q.agg, q.one, q.noid, q.kd, q.b2s, q.s2b⟩
theorem decx35 {x : TV τ} {a : GAddr} (h : dec35 x = some a) : ∃ x0 x1, x = .agg [x0, x1] ∧ dec3 x0 = some a.Group ∧ dec3 x1 = some a.Replica := by
  unfold dec35 at h
  split at h
  · rename_i x0 x1
    split at h
    · rename_i a0 h0
      split at h
      · rename_i a1 h1
        cases h
        exact ⟨_, _, rfl, h0, h1⟩
      · cases h
    · cases h
  · cases h
theorem law35 : CodAt C 35 := ⟨fun x => app_eq (law3.cel _) (app_eq (law3.cel _) (rfl)), fun x => len_app (law3.len _) (len_app (law3.len _) (rfl)), fun x a h => by obtain ⟨x0, x1, rfl, h0, h1⟩ := decx35 h; exact CW.append (law3.dec _ _ h0) (CW.append (law3.dec _ _ h1) (CW.refl [])), fun x => have q := ok_and (law3.ok x.Group) (ok_and (law3.ok x.Replica) (ok_t)); q, fun x a h => by obtain ⟨x0, x1, rfl, h0, h1⟩ := decx35 h; exact ok_and (law3.decok _ _ h0) (ok_and (law3.decok _ _ h1) (rfl)), fun x a h => by obtain ⟨x0, x1, rfl, h0, h1⟩ := decx35 h; rfl, fun x => all_app (law3.one _) (all_app (law3.one _) (rfl)), fun x => noids_app (law3.noid _) (noids_app (law3.noid _) (trivial)), fun ks h a b => by have := eqCells_append (law3.kd _ rfl a.Group b.Group) (eqCells_append (law3.kd _ rfl a.Replica b.Replica) ((show eqCells [] [] [] = some true from rfl))); cases h; exact this, (fun l s h => nomatch h), (fun s l h => nomatch h)⟩
theorem law36 : CodAt C 36 := let q := law35; ⟨q.cel, q.len, q.dec, q.ok, q.decok, q.agg, q.one, q.noid, q.kd, q.b2s, q.s2b⟩
theorem decx44 {x : TV τ} {a : GBallot} (h : dec44 x = some a) : ∃ x0 x1, x = .agg [x0, x1] ∧ dec2 x0 = some a.Round ∧ dec3 x1 = some a.Replica := by
  unfold dec44 at h
  split at h
  · rename_i x0 x1
    split at h
    · rename_i a0 h0
      split at h
      · rename_i a1 h1
        cases h
        exact ⟨_, _, rfl, h0, h1⟩
      · cases h
    · cases h
  · cases h
theorem law44 : CodAt C 44 := ⟨fun x => app_eq (law2.cel _) (app_eq (law3.cel _) (rfl)), fun x => len_app (law2.len _) (len_app (law3.len _) (rfl)), fun x a h => by obtain ⟨x0, x1, rfl, h0, h1⟩ := decx44 h; exact CW.append (law2.dec _ _ h0) (CW.append (law3.dec _ _ h1) (CW.refl [])), fun x => have q := ok_and (law2.ok x.Round) (ok_and (law3.ok x.Replica) (ok_t)); q, fun x a h => by obtain ⟨x0, x1, rfl, h0, h1⟩ := decx44 h; exact ok_and (law2.decok _ _ h0) (ok_and (law3.decok _ _ h1) (rfl)), fun x a h => by obtain ⟨x0, x1, rfl, h0, h1⟩ := decx44 h; rfl, fun x => all_app (law2.one _) (all_app (law3.one _) (rfl)), fun x => noids_app (law2.noid _) (noids_app (law3.noid _) (trivial)), fun ks h a b => by have := eqCells_append (law2.kd _ rfl a.Round b.Round) (eqCells_append (law3.kd _ rfl a.Replica b.Replica) ((show eqCells [] [] [] = some true from rfl))); cases h; exact this, (fun l s h => nomatch h), (fun s l h => nomatch h)⟩
theorem decx54 {x : TV τ} {a : GEntry} (h : dec54 x = some a) : ∃ x0 x1 x2 x3 x4 x5 x6 x7 x8 x9 x10 x11 x12 x13 x14, x = .agg [x0, x1, x2, x3, x4, x5, x6, x7, x8, x9, x10, x11, x12, x13, x14] ∧ dec3 x0 = some a.Kind ∧ dec2 x1 = some a.Session ∧ dec2 x2 = some a.Request ∧ dec49 x3 = some a.Op ∧ dec3 x4 = some a.Origin ∧ dec2 x5 = some a.Seq ∧ dec28 x6 = some a.Ops ∧ dec26 x7 = some a.Epoch ∧ dec3 x8 = some a.From ∧ dec24 x9 = some a.Vector_ ∧ dec2 x10 = some a.Clock ∧ dec52 x11 = some a.Part ∧ dec3 x12 = some a.Site ∧ dec3 x13 = some a.Sponsor ∧ dec2 x14 = some a.Length := by
  unfold dec54 at h
  split at h
  · rename_i x0 x1 x2 x3 x4 x5 x6 x7 x8 x9 x10 x11 x12 x13 x14
    split at h
    · rename_i a0 h0
      split at h
      · rename_i a1 h1
        split at h
        · rename_i a2 h2
          split at h
          · rename_i a3 h3
            split at h
            · rename_i a4 h4
              split at h
              · rename_i a5 h5
                split at h
                · rename_i a6 h6
                  split at h
                  · rename_i a7 h7
                    split at h
                    · rename_i a8 h8
                      split at h
                      · rename_i a9 h9
                        split at h
                        · rename_i a10 h10
                          split at h
                          · rename_i a11 h11
                            split at h
                            · rename_i a12 h12
                              split at h
                              · rename_i a13 h13
                                split at h
                                · rename_i a14 h14
                                  cases h
                                  exact ⟨_, _, _, _, _, _, _, _, _, _, _, _, _, _, _, rfl, h0, h1, h2, h3, h4, h5, h6, h7, h8, h9, h10, h11, h12, h13, h14⟩
                                · cases h
                              · cases h
                            · cases h
                          · cases h
                        · cases h
                      · cases h
                    · cases h
                  · cases h
                · cases h
              · cases h
            · cases h
          · cases h
        · cases h
      · cases h
    · cases h
  · cases h
theorem law54 : CodAt C 54 := ⟨fun x => app_eq (law3.cel _) (app_eq (law2.cel _) (app_eq (law2.cel _) (app_eq (law49.cel _) (app_eq (law3.cel _) (app_eq (law2.cel _) (app_eq (law28.cel _) (app_eq (law26.cel _) (app_eq (law3.cel _) (app_eq (law24.cel _) (app_eq (law2.cel _) (app_eq (law52.cel _) (app_eq (law3.cel _) (app_eq (law3.cel _) (app_eq (law2.cel _) (rfl))))))))))))))), fun x => len_app (law3.len _) (len_app (law2.len _) (len_app (law2.len _) (len_app (law49.len _) (len_app (law3.len _) (len_app (law2.len _) (len_app (law28.len _) (len_app (law26.len _) (len_app (law3.len _) (len_app (law24.len _) (len_app (law2.len _) (len_app (law52.len _) (len_app (law3.len _) (len_app (law3.len _) (len_app (law2.len _) (rfl))))))))))))))), fun x a h => by obtain ⟨x0, x1, x2, x3, x4, x5, x6, x7, x8, x9, x10, x11, x12, x13, x14, rfl, h0, h1, h2, h3, h4, h5, h6, h7, h8, h9, h10, h11, h12, h13, h14⟩ := decx54 h; exact CW.append (law3.dec _ _ h0) (CW.append (law2.dec _ _ h1) (CW.append (law2.dec _ _ h2) (CW.append (law49.dec _ _ h3) (CW.append (law3.dec _ _ h4) (CW.append (law2.dec _ _ h5) (CW.append (law28.dec _ _ h6) (CW.append (law26.dec _ _ h7) (CW.append (law3.dec _ _ h8) (CW.append (law24.dec _ _ h9) (CW.append (law2.dec _ _ h10) (CW.append (law52.dec _ _ h11) (CW.append (law3.dec _ _ h12) (CW.append (law3.dec _ _ h13) (CW.append (law2.dec _ _ h14) (CW.refl []))))))))))))))), fun x => have q := ok_and (law3.ok x.Kind) (ok_and (law2.ok x.Session) (ok_and (law2.ok x.Request) (ok_and (law49.ok x.Op) (ok_and (law3.ok x.Origin) (ok_and (law2.ok x.Seq) (ok_and (law28.ok x.Ops) (ok_and (law26.ok x.Epoch) (ok_and (law3.ok x.From) (ok_and (law24.ok x.Vector_) (ok_and (law2.ok x.Clock) (ok_and (law52.ok x.Part) (ok_and (law3.ok x.Site) (ok_and (law3.ok x.Sponsor) (ok_and (law2.ok x.Length) (ok_t))))))))))))))); q, fun x a h => by obtain ⟨x0, x1, x2, x3, x4, x5, x6, x7, x8, x9, x10, x11, x12, x13, x14, rfl, h0, h1, h2, h3, h4, h5, h6, h7, h8, h9, h10, h11, h12, h13, h14⟩ := decx54 h; exact ok_and (law3.decok _ _ h0) (ok_and (law2.decok _ _ h1) (ok_and (law2.decok _ _ h2) (ok_and (law49.decok _ _ h3) (ok_and (law3.decok _ _ h4) (ok_and (law2.decok _ _ h5) (ok_and (law28.decok _ _ h6) (ok_and (law26.decok _ _ h7) (ok_and (law3.decok _ _ h8) (ok_and (law24.decok _ _ h9) (ok_and (law2.decok _ _ h10) (ok_and (law52.decok _ _ h11) (ok_and (law3.decok _ _ h12) (ok_and (law3.decok _ _ h13) (ok_and (law2.decok _ _ h14) (rfl))))))))))))))), fun x a h => by obtain ⟨x0, x1, x2, x3, x4, x5, x6, x7, x8, x9, x10, x11, x12, x13, x14, rfl, h0, h1, h2, h3, h4, h5, h6, h7, h8, h9, h10, h11, h12, h13, h14⟩ := decx54 h; rfl, fun x => all_app (law3.one _) (all_app (law2.one _) (all_app (law2.one _) (all_app (law49.one _) (all_app (law3.one _) (all_app (law2.one _) (all_app (law28.one _) (all_app (law26.one _) (all_app (law3.one _) (all_app (law24.one _) (all_app (law2.one _) (all_app (law52.one _) (all_app (law3.one _) (all_app (law3.one _) (all_app (law2.one _) (rfl))))))))))))))), fun x => noids_app (law3.noid _) (noids_app (law2.noid _) (noids_app (law2.noid _) (noids_app (law49.noid _) (noids_app (law3.noid _) (noids_app (law2.noid _) (noids_app (law28.noid _) (noids_app (law26.noid _) (noids_app (law3.noid _) (noids_app (law24.noid _) (noids_app (law2.noid _) (noids_app (law52.noid _) (noids_app (law3.noid _) (noids_app (law3.noid _) (noids_app (law2.noid _) (trivial))))))))))))))), (fun ks h => nomatch h), (fun l s h => nomatch h), (fun s l h => nomatch h)⟩
theorem decx81 {x : TV τ} {a : GSlotted} (h : dec81 x = some a) : ∃ x0 x1 x2, x = .agg [x0, x1, x2] ∧ dec2 x0 = some a.Slot ∧ dec44 x1 = some a.Ballot ∧ dec54 x2 = some a.Entry := by
  unfold dec81 at h
  split at h
  · rename_i x0 x1 x2
    split at h
    · rename_i a0 h0
      split at h
      · rename_i a1 h1
        split at h
        · rename_i a2 h2
          cases h
          exact ⟨_, _, _, rfl, h0, h1, h2⟩
        · cases h
      · cases h
    · cases h
  · cases h
theorem law81 : CodAt C 81 := ⟨fun x => app_eq (law2.cel _) (app_eq (law44.cel _) (app_eq (law54.cel _) (rfl))), fun x => len_app (law2.len _) (len_app (law44.len _) (len_app (law54.len _) (rfl))), fun x a h => by obtain ⟨x0, x1, x2, rfl, h0, h1, h2⟩ := decx81 h; exact CW.append (law2.dec _ _ h0) (CW.append (law44.dec _ _ h1) (CW.append (law54.dec _ _ h2) (CW.refl []))), fun x => have q := ok_and (law2.ok x.Slot) (ok_and (law44.ok x.Ballot) (ok_and (law54.ok x.Entry) (ok_t))); q, fun x a h => by obtain ⟨x0, x1, x2, rfl, h0, h1, h2⟩ := decx81 h; exact ok_and (law2.decok _ _ h0) (ok_and (law44.decok _ _ h1) (ok_and (law54.decok _ _ h2) (rfl))), fun x a h => by obtain ⟨x0, x1, x2, rfl, h0, h1, h2⟩ := decx81 h; rfl, fun x => all_app (law2.one _) (all_app (law44.one _) (all_app (law54.one _) (rfl))), fun x => noids_app (law2.noid _) (noids_app (law44.noid _) (noids_app (law54.noid _) (trivial))), (fun ks h => nomatch h), (fun l s h => nomatch h), (fun s l h => nomatch h)⟩
theorem law45 : CodAt C 45 := ⟨fun x => rfl, fun x => rfl, fun x a h => (dSl_cw (C := C) (show dSl 81 x = some a from h)).1, fun x => rfl, fun x a h => (dSl_cw (C := C) (show dSl 81 x = some a from h)).2.1, fun x a h => (dSl_cw (C := C) (show dSl 81 x = some a from h)).2.2, fun a => rfl, fun a => noids_one (NoId.asl fun cs hc => by obtain ⟨y, _, rfl⟩ := List.mem_map.1 hc; exact law81.noid y), (fun ks h => nomatch h), (fun l s h => nomatch h), (fun s l h => nomatch h)⟩
theorem decx56 {x : TV τ} {a : GMsg} (h : dec56 x = some a) : ∃ x0 x1 x2 x3 x4 x5 x6 x7 x8 x9 x10 x11 x12 x13, x = .agg [x0, x1, x2, x3, x4, x5, x6, x7, x8, x9, x10, x11, x12, x13] ∧ dec3 x0 = some a.Kind ∧ dec36 x1 = some a.From ∧ dec36 x2 = some a.To ∧ dec44 x3 = some a.Ballot ∧ dec2 x4 = some a.Slot ∧ dec45 x5 = some a.List_ ∧ dec54 x6 = some a.Entry ∧ dec2 x7 = some a.Number ∧ dec24 x8 = some a.Vector_ ∧ dec2 x9 = some a.Clock ∧ dec3 x10 = some a.Origin ∧ dec28 x11 = some a.Ops ∧ dec26 x12 = some a.Epoch ∧ dec52 x13 = some a.Part := by
  unfold dec56 at h
  split at h
  · rename_i x0 x1 x2 x3 x4 x5 x6 x7 x8 x9 x10 x11 x12 x13
    split at h
    · rename_i a0 h0
      split at h
      · rename_i a1 h1
        split at h
        · rename_i a2 h2
          split at h
          · rename_i a3 h3
            split at h
            · rename_i a4 h4
              split at h
              · rename_i a5 h5
                split at h
                · rename_i a6 h6
                  split at h
                  · rename_i a7 h7
                    split at h
                    · rename_i a8 h8
                      split at h
                      · rename_i a9 h9
                        split at h
                        · rename_i a10 h10
                          split at h
                          · rename_i a11 h11
                            split at h
                            · rename_i a12 h12
                              split at h
                              · rename_i a13 h13
                                cases h
                                exact ⟨_, _, _, _, _, _, _, _, _, _, _, _, _, _, rfl, h0, h1, h2, h3, h4, h5, h6, h7, h8, h9, h10, h11, h12, h13⟩
                              · cases h
                            · cases h
                          · cases h
                        · cases h
                      · cases h
                    · cases h
                  · cases h
                · cases h
              · cases h
            · cases h
          · cases h
        · cases h
      · cases h
    · cases h
  · cases h
theorem law56 : CodAt C 56 := ⟨fun x => app_eq (law3.cel _) (app_eq (law36.cel _) (app_eq (law36.cel _) (app_eq (law44.cel _) (app_eq (law2.cel _) (app_eq (law45.cel _) (app_eq (law54.cel _) (app_eq (law2.cel _) (app_eq (law24.cel _) (app_eq (law2.cel _) (app_eq (law3.cel _) (app_eq (law28.cel _) (app_eq (law26.cel _) (app_eq (law52.cel _) (rfl)))))))))))))), fun x => len_app (law3.len _) (len_app (law36.len _) (len_app (law36.len _) (len_app (law44.len _) (len_app (law2.len _) (len_app (law45.len _) (len_app (law54.len _) (len_app (law2.len _) (len_app (law24.len _) (len_app (law2.len _) (len_app (law3.len _) (len_app (law28.len _) (len_app (law26.len _) (len_app (law52.len _) (rfl)))))))))))))), fun x a h => by obtain ⟨x0, x1, x2, x3, x4, x5, x6, x7, x8, x9, x10, x11, x12, x13, rfl, h0, h1, h2, h3, h4, h5, h6, h7, h8, h9, h10, h11, h12, h13⟩ := decx56 h; exact CW.append (law3.dec _ _ h0) (CW.append (law36.dec _ _ h1) (CW.append (law36.dec _ _ h2) (CW.append (law44.dec _ _ h3) (CW.append (law2.dec _ _ h4) (CW.append (law45.dec _ _ h5) (CW.append (law54.dec _ _ h6) (CW.append (law2.dec _ _ h7) (CW.append (law24.dec _ _ h8) (CW.append (law2.dec _ _ h9) (CW.append (law3.dec _ _ h10) (CW.append (law28.dec _ _ h11) (CW.append (law26.dec _ _ h12) (CW.append (law52.dec _ _ h13) (CW.refl [])))))))))))))), fun x => have q := ok_and (law3.ok x.Kind) (ok_and (law36.ok x.From) (ok_and (law36.ok x.To) (ok_and (law44.ok x.Ballot) (ok_and (law2.ok x.Slot) (ok_and (law45.ok x.List_) (ok_and (law54.ok x.Entry) (ok_and (law2.ok x.Number) (ok_and (law24.ok x.Vector_) (ok_and (law2.ok x.Clock) (ok_and (law3.ok x.Origin) (ok_and (law28.ok x.Ops) (ok_and (law26.ok x.Epoch) (ok_and (law52.ok x.Part) (ok_t)))))))))))))); q, fun x a h => by obtain ⟨x0, x1, x2, x3, x4, x5, x6, x7, x8, x9, x10, x11, x12, x13, rfl, h0, h1, h2, h3, h4, h5, h6, h7, h8, h9, h10, h11, h12, h13⟩ := decx56 h; exact ok_and (law3.decok _ _ h0) (ok_and (law36.decok _ _ h1) (ok_and (law36.decok _ _ h2) (ok_and (law44.decok _ _ h3) (ok_and (law2.decok _ _ h4) (ok_and (law45.decok _ _ h5) (ok_and (law54.decok _ _ h6) (ok_and (law2.decok _ _ h7) (ok_and (law24.decok _ _ h8) (ok_and (law2.decok _ _ h9) (ok_and (law3.decok _ _ h10) (ok_and (law28.decok _ _ h11) (ok_and (law26.decok _ _ h12) (ok_and (law52.decok _ _ h13) (rfl)))))))))))))), fun x a h => by obtain ⟨x0, x1, x2, x3, x4, x5, x6, x7, x8, x9, x10, x11, x12, x13, rfl, h0, h1, h2, h3, h4, h5, h6, h7, h8, h9, h10, h11, h12, h13⟩ := decx56 h; rfl, fun x => all_app (law3.one _) (all_app (law36.one _) (all_app (law36.one _) (all_app (law44.one _) (all_app (law2.one _) (all_app (law45.one _) (all_app (law54.one _) (all_app (law2.one _) (all_app (law24.one _) (all_app (law2.one _) (all_app (law3.one _) (all_app (law28.one _) (all_app (law26.one _) (all_app (law52.one _) (rfl)))))))))))))), fun x => noids_app (law3.noid _) (noids_app (law36.noid _) (noids_app (law36.noid _) (noids_app (law44.noid _) (noids_app (law2.noid _) (noids_app (law45.noid _) (noids_app (law54.noid _) (noids_app (law2.noid _) (noids_app (law24.noid _) (noids_app (law2.noid _) (noids_app (law3.noid _) (noids_app (law28.noid _) (noids_app (law26.noid _) (noids_app (law52.noid _) (trivial)))))))))))))), (fun ks h => nomatch h), (fun l s h => nomatch h), (fun s l h => nomatch h)⟩
theorem law38 : CodAt C 38 := ⟨fun x => rfl, fun x => rfl, fun x a h => (dSl_cw (C := C) (show dSl 56 x = some a from h)).1, fun x => rfl, fun x a h => (dSl_cw (C := C) (show dSl 56 x = some a from h)).2.1, fun x a h => (dSl_cw (C := C) (show dSl 56 x = some a from h)).2.2, fun a => rfl, fun a => noids_one (NoId.asl fun cs hc => by obtain ⟨y, _, rfl⟩ := List.mem_map.1 hc; exact law56.noid y), (fun ks h => nomatch h), (fun l s h => nomatch h), (fun s l h => nomatch h)⟩
theorem law55 : CodAt C 55 := let q := law56; ⟨q.cel, q.len, q.dec, q.ok, q.decok, q.agg, q.one, q.noid, q.kd, q.b2s, q.s2b⟩
theorem law59 : CodAt C 59 := ⟨fun x => rfl, fun x => rfl, fun x a h => (dSl_cw (C := C) (show dSl 3 x = some a from h)).1, fun x => rfl, fun x a h => (dSl_cw (C := C) (show dSl 3 x = some a from h)).2.1, fun x a h => (dSl_cw (C := C) (show dSl 3 x = some a from h)).2.2, fun a => rfl, fun a => noids_one (NoId.asl fun cs hc => by obtain ⟨y, _, rfl⟩ := List.mem_map.1 hc; exact law3.noid y), (fun ks h => nomatch h), (fun l s h => nomatch h), (fun s l h => nomatch h)⟩
theorem law76 : CodAt C 76 := ⟨fun x => rfl, fun x => rfl, fun x a h => (dSl_cw (C := C) (show dSl 36 x = some a from h)).1, fun x => rfl, fun x a h => (dSl_cw (C := C) (show dSl 36 x = some a from h)).2.1, fun x a h => (dSl_cw (C := C) (show dSl 36 x = some a from h)).2.2, fun a => rfl, fun a => noids_one (NoId.asl fun cs hc => by obtain ⟨y, _, rfl⟩ := List.mem_map.1 hc; exact law36.noid y), (fun ks h => nomatch h), (fun l s h => nomatch h), (fun s l h => nomatch h)⟩
theorem decx20056 {x : TV τ} {a : GMsgH} (h : dec20056 x = some a) : ∃ x0 x1 x2 x3 x4 x5 x6 x7 x8 x9 x10 x11 x12 x13, x = .agg [x0, x1, x2, x3, x4, x5, x6, x7, x8, x9, x10, x11, x12, x13] ∧ dec3 x0 = some a.Kind ∧ dec36 x1 = some a.From ∧ dec36 x2 = some a.To ∧ dec44 x3 = some a.Ballot ∧ dec2 x4 = some a.Slot ∧ dec45 x5 = some a.List_ ∧ dec54 x6 = some a.Entry ∧ dec2 x7 = some a.Number ∧ dec24 x8 = some a.Vector_ ∧ dec2 x9 = some a.Clock ∧ dec3 x10 = some a.Origin ∧ dec10049 x11 = some a.Ops ∧ dec26 x12 = some a.Epoch ∧ dec52 x13 = some a.Part := by
  unfold dec20056 at h
  split at h
  · rename_i x0 x1 x2 x3 x4 x5 x6 x7 x8 x9 x10 x11 x12 x13
    split at h
    · rename_i a0 h0
      split at h
      · rename_i a1 h1
        split at h
        · rename_i a2 h2
          split at h
          · rename_i a3 h3
            split at h
            · rename_i a4 h4
              split at h
              · rename_i a5 h5
                split at h
                · rename_i a6 h6
                  split at h
                  · rename_i a7 h7
                    split at h
                    · rename_i a8 h8
                      split at h
                      · rename_i a9 h9
                        split at h
                        · rename_i a10 h10
                          split at h
                          · rename_i a11 h11
                            split at h
                            · rename_i a12 h12
                              split at h
                              · rename_i a13 h13
                                cases h
                                exact ⟨_, _, _, _, _, _, _, _, _, _, _, _, _, _, rfl, h0, h1, h2, h3, h4, h5, h6, h7, h8, h9, h10, h11, h12, h13⟩
                              · cases h
                            · cases h
                          · cases h
                        · cases h
                      · cases h
                    · cases h
                  · cases h
                · cases h
              · cases h
            · cases h
          · cases h
        · cases h
      · cases h
    · cases h
  · cases h
theorem law20056 : CodAt C 20056 := ⟨fun x => app_eq (law3.cel _) (app_eq (law36.cel _) (app_eq (law36.cel _) (app_eq (law44.cel _) (app_eq (law2.cel _) (app_eq (law45.cel _) (app_eq (law54.cel _) (app_eq (law2.cel _) (app_eq (law24.cel _) (app_eq (law2.cel _) (app_eq (law3.cel _) (app_eq (law10049.cel _) (app_eq (law26.cel _) (app_eq (law52.cel _) (rfl)))))))))))))), fun x => len_app (law3.len _) (len_app (law36.len _) (len_app (law36.len _) (len_app (law44.len _) (len_app (law2.len _) (len_app (law45.len _) (len_app (law54.len _) (len_app (law2.len _) (len_app (law24.len _) (len_app (law2.len _) (len_app (law3.len _) (len_app (law10049.len _) (len_app (law26.len _) (len_app (law52.len _) (rfl)))))))))))))), fun x a h => by obtain ⟨x0, x1, x2, x3, x4, x5, x6, x7, x8, x9, x10, x11, x12, x13, rfl, h0, h1, h2, h3, h4, h5, h6, h7, h8, h9, h10, h11, h12, h13⟩ := decx20056 h; exact CW.append (law3.dec _ _ h0) (CW.append (law36.dec _ _ h1) (CW.append (law36.dec _ _ h2) (CW.append (law44.dec _ _ h3) (CW.append (law2.dec _ _ h4) (CW.append (law45.dec _ _ h5) (CW.append (law54.dec _ _ h6) (CW.append (law2.dec _ _ h7) (CW.append (law24.dec _ _ h8) (CW.append (law2.dec _ _ h9) (CW.append (law3.dec _ _ h10) (CW.append (law10049.dec _ _ h11) (CW.append (law26.dec _ _ h12) (CW.append (law52.dec _ _ h13) (CW.refl [])))))))))))))), fun x => have q := ok_and (law3.ok x.Kind) (ok_and (law36.ok x.From) (ok_and (law36.ok x.To) (ok_and (law44.ok x.Ballot) (ok_and (law2.ok x.Slot) (ok_and (law45.ok x.List_) (ok_and (law54.ok x.Entry) (ok_and (law2.ok x.Number) (ok_and (law24.ok x.Vector_) (ok_and (law2.ok x.Clock) (ok_and (law3.ok x.Origin) (ok_and (law10049.ok x.Ops) (ok_and (law26.ok x.Epoch) (ok_and (law52.ok x.Part) (ok_t)))))))))))))); q, fun x a h => by obtain ⟨x0, x1, x2, x3, x4, x5, x6, x7, x8, x9, x10, x11, x12, x13, rfl, h0, h1, h2, h3, h4, h5, h6, h7, h8, h9, h10, h11, h12, h13⟩ := decx20056 h; exact ok_and (law3.decok _ _ h0) (ok_and (law36.decok _ _ h1) (ok_and (law36.decok _ _ h2) (ok_and (law44.decok _ _ h3) (ok_and (law2.decok _ _ h4) (ok_and (law45.decok _ _ h5) (ok_and (law54.decok _ _ h6) (ok_and (law2.decok _ _ h7) (ok_and (law24.decok _ _ h8) (ok_and (law2.decok _ _ h9) (ok_and (law3.decok _ _ h10) (ok_and (law10049.decok _ _ h11) (ok_and (law26.decok _ _ h12) (ok_and (law52.decok _ _ h13) (rfl)))))))))))))), fun x a h => by obtain ⟨x0, x1, x2, x3, x4, x5, x6, x7, x8, x9, x10, x11, x12, x13, rfl, h0, h1, h2, h3, h4, h5, h6, h7, h8, h9, h10, h11, h12, h13⟩ := decx20056 h; rfl, fun x => all_app (law3.one _) (all_app (law36.one _) (all_app (law36.one _) (all_app (law44.one _) (all_app (law2.one _) (all_app (law45.one _) (all_app (law54.one _) (all_app (law2.one _) (all_app (law24.one _) (all_app (law2.one _) (all_app (law3.one _) (all_app (law10049.one _) (all_app (law26.one _) (all_app (law52.one _) (rfl)))))))))))))), fun x => noids_app (law3.noid _) (noids_app (law36.noid _) (noids_app (law36.noid _) (noids_app (law44.noid _) (noids_app (law2.noid _) (noids_app (law45.noid _) (noids_app (law54.noid _) (noids_app (law2.noid _) (noids_app (law24.noid _) (noids_app (law2.noid _) (noids_app (law3.noid _) (noids_app (law10049.noid _) (noids_app (law26.noid _) (noids_app (law52.noid _) (trivial)))))))))))))), (fun ks h => nomatch h), (fun l s h => nomatch h), (fun s l h => nomatch h)⟩
theorem lawX {t : Nat} (h : celT t = fun _ => []) (h1 : encT t = fun _ => .agg []) (h2 : decT t = fun _ => none) (h3 : szT t = 0) (h4 : kdT t = none) (h5 : b2sT t = fun _ => none) (h6 : s2bT t = fun _ => none) : CodAt C t := by
  refine ⟨fun x => ?_, fun x => ?_, fun x a hx => ?_, fun x => ?_, fun x a hx => ?_, fun x a hx => ?_, fun a => ?_, fun a => ?_, fun ks hk => ?_, fun l s hl => ?_, fun s l hl => ?_⟩
  · show (encT t x).cells C = celT t x; rw [h, h1]; rfl
  · show (celT t x).length = szT t; rw [h, h3]; rfl
  · have e : decT t x = some a := hx; rw [h2] at e; cases e
  · show (encT t x).ok = true; rw [h1]; rfl
  · have e : decT t x = some a := hx; rw [h2] at e; cases e
  · have e : decT t x = some a := hx; rw [h2] at e; cases e
  · show (celT t a).all AV.one = true; rw [h]; rfl
  · show NoIds (celT t a); rw [h]; trivial
  · have e : kdT t = some ks := hk; rw [h4] at e; cases e
  · have e : b2sT t l = some s := hl; rw [h5] at e; cases e
  · have e : s2bT t s = some l := hl; rw [h6] at e; cases e
theorem lawOther : ∀ t : Nat, t ≠ 2 → t ≠ 3 → t ≠ 4 → t ≠ 5 → t ≠ 9 → t ≠ 12 → t ≠ 21 → t ≠ 22 → t ≠ 23 → t ≠ 24 → t ≠ 25 → t ≠ 26 → t ≠ 27 → t ≠ 28 → t ≠ 29 → t ≠ 30 → t ≠ 31 → t ≠ 32 → t ≠ 33 → t ≠ 34 → t ≠ 35 → t ≠ 36 → t ≠ 38 → t ≠ 44 → t ≠ 45 → t ≠ 47 → t ≠ 49 → t ≠ 50 → t ≠ 52 → t ≠ 54 → t ≠ 55 → t ≠ 56 → t ≠ 59 → t ≠ 74 → t ≠ 76 → t ≠ 81 → t ≠ 113 → t ≠ 115 → t ≠ 117 → t ≠ 119 → t ≠ 122 → t ≠ 20056 → t ≠ 10049 → CodAt C t
  | t, h2, h3, h4, h5, h9, h12, h21, h22, h23, h24, h25, h26, h27, h28, h29, h30, h31, h32, h33, h34, h35, h36, h38, h44, h45, h47, h49, h50, h52, h54, h55, h56, h59, h74, h76, h81, h113, h115, h117, h119, h122, h20056, h10049 => by
    apply lawX <;> first
      | (unfold celT; split <;> first | rfl | contradiction | (exfalso; omega))
      | (unfold encT; split <;> first | rfl | contradiction | (exfalso; omega))
      | (unfold decT; split <;> first | rfl | contradiction | (exfalso; omega))
      | (unfold szT; split <;> first | rfl | contradiction | (exfalso; omega))
      | (unfold kdT; split <;> first | rfl | contradiction | (exfalso; omega))
      | (unfold b2sT; split <;> first | rfl | contradiction | (exfalso; omega))
      | (unfold s2bT; split <;> first | rfl | contradiction | (exfalso; omega))
theorem cOk : C.Ok := Cod.Ok.of fun t => by
  by_cases h2 : t = 2
  · subst h2; exact law2
  by_cases h3 : t = 3
  · subst h3; exact law3
  by_cases h4 : t = 4
  · subst h4; exact law4
  by_cases h5 : t = 5
  · subst h5; exact law5
  by_cases h9 : t = 9
  · subst h9; exact law9
  by_cases h12 : t = 12
  · subst h12; exact law12
  by_cases h21 : t = 21
  · subst h21; exact law21
  by_cases h22 : t = 22
  · subst h22; exact law22
  by_cases h23 : t = 23
  · subst h23; exact law23
  by_cases h24 : t = 24
  · subst h24; exact law24
  by_cases h25 : t = 25
  · subst h25; exact law25
  by_cases h26 : t = 26
  · subst h26; exact law26
  by_cases h27 : t = 27
  · subst h27; exact law27
  by_cases h28 : t = 28
  · subst h28; exact law28
  by_cases h29 : t = 29
  · subst h29; exact law29
  by_cases h30 : t = 30
  · subst h30; exact law30
  by_cases h31 : t = 31
  · subst h31; exact law31
  by_cases h32 : t = 32
  · subst h32; exact law32
  by_cases h33 : t = 33
  · subst h33; exact law33
  by_cases h34 : t = 34
  · subst h34; exact law34
  by_cases h35 : t = 35
  · subst h35; exact law35
  by_cases h36 : t = 36
  · subst h36; exact law36
  by_cases h38 : t = 38
  · subst h38; exact law38
  by_cases h44 : t = 44
  · subst h44; exact law44
  by_cases h45 : t = 45
  · subst h45; exact law45
  by_cases h47 : t = 47
  · subst h47; exact law47
  by_cases h49 : t = 49
  · subst h49; exact law49
  by_cases h50 : t = 50
  · subst h50; exact law50
  by_cases h52 : t = 52
  · subst h52; exact law52
  by_cases h54 : t = 54
  · subst h54; exact law54
  by_cases h55 : t = 55
  · subst h55; exact law55
  by_cases h56 : t = 56
  · subst h56; exact law56
  by_cases h59 : t = 59
  · subst h59; exact law59
  by_cases h74 : t = 74
  · subst h74; exact law74
  by_cases h76 : t = 76
  · subst h76; exact law76
  by_cases h81 : t = 81
  · subst h81; exact law81
  by_cases h113 : t = 113
  · subst h113; exact law113
  by_cases h115 : t = 115
  · subst h115; exact law115
  by_cases h117 : t = 117
  · subst h117; exact law117
  by_cases h119 : t = 119
  · subst h119; exact law119
  by_cases h122 : t = 122
  · subst h122; exact law122
  by_cases h20056 : t = 20056
  · subst h20056; exact law20056
  by_cases h10049 : t = 10049
  · subst h10049; exact law10049
  exact lawOther t h2 h3 h4 h5 h9 h12 h21 h22 h23 h24 h25 h26 h27 h28 h29 h30 h31 h32 h33 h34 h35 h36 h38 h44 h45 h47 h49 h50 h52 h54 h55 h56 h59 h74 h76 h81 h113 h115 h117 h119 h122 h20056 h10049
def oi : TV τ := .int .i64 0
def zeroT : Nat → Option (TV τ)
  | 2 => some (oi)
  | 3 => some (oi)
  | 4 => some (.bool false)
  | 5 => some (.int .u8 0)
  | 9 => some (.str [])
  | 12 => some (.int .u64 0)
  | 21 => some (.int .i32 0)
  | 22 => some (.arr 3 8 (Vector.replicate 8 (default : Int)))
  | 23 => some (.arr 2 8 (Vector.replicate 8 (default : Int)))
  | 24 => some (.arr 2 8 (Vector.replicate 8 (default : Int)))
  | 25 => some (.agg [oi, (.arr 3 8 (Vector.replicate 8 (default : Int))), (.arr 2 8 (Vector.replicate 8 (default : Int))), (.arr 3 8 (Vector.replicate 8 (default : Int)))])
  | 26 => some (.agg [oi, (.arr 3 8 (Vector.replicate 8 (default : Int))), (.arr 2 8 (Vector.replicate 8 (default : Int))), (.arr 3 8 (Vector.replicate 8 (default : Int)))])
  | 27 => some (.nil .slice)
  | 28 => some (.nil .slice)
  | 29 => some (.arr 28 8 (Vector.replicate 8 (default : List (GOp))))
  | 30 => some (.arr 24 8 (Vector.replicate 8 (default : Vector (Int) 8)))
  | 31 => some (.nil .slice)
  | 32 => some (.nil .slice)
  | 33 => some (.agg [oi, oi, (.bool false), .agg [oi, (.arr 3 8 (Vector.replicate 8 (default : Int))), (.arr 2 8 (Vector.replicate 8 (default : Int))), (.arr 3 8 (Vector.replicate 8 (default : Int)))], oi, (.arr 2 8 (Vector.replicate 8 (default : Int))), (.arr 2 8 (Vector.replicate 8 (default : Int))), (.nil .slice), (.nil .slice), oi, (.arr 2 8 (Vector.replicate 8 (default : Int))), (.arr 28 8 (Vector.replicate 8 (default : List (GOp)))), (.arr 24 8 (Vector.replicate 8 (default : Vector (Int) 8))), (.arr 2 8 (Vector.replicate 8 (default : Int))), (.arr 2 8 (Vector.replicate 8 (default : Int))), (.arr 2 8 (Vector.replicate 8 (default : Int))), (.nil .slice), (.nil .slice)])
  | 34 => some (.agg [oi, oi, (.bool false), .agg [oi, (.arr 3 8 (Vector.replicate 8 (default : Int))), (.arr 2 8 (Vector.replicate 8 (default : Int))), (.arr 3 8 (Vector.replicate 8 (default : Int)))], oi, (.arr 2 8 (Vector.replicate 8 (default : Int))), (.arr 2 8 (Vector.replicate 8 (default : Int))), (.nil .slice), (.nil .slice), oi, (.arr 2 8 (Vector.replicate 8 (default : Int))), (.arr 28 8 (Vector.replicate 8 (default : List (GOp)))), (.arr 24 8 (Vector.replicate 8 (default : Vector (Int) 8))), (.arr 2 8 (Vector.replicate 8 (default : Int))), (.arr 2 8 (Vector.replicate 8 (default : Int))), (.arr 2 8 (Vector.replicate 8 (default : Int))), (.nil .slice), (.nil .slice)])
  | 35 => some (.agg [oi, oi])
  | 36 => some (.agg [oi, oi])
  | 38 => some (.nil .slice)
  | 44 => some (.agg [oi, oi])
  | 45 => some (.nil .slice)
  | 47 => some (.agg [oi, oi])
  | 49 => some (.agg [.agg [oi, oi], oi, oi, oi, (.str []), (.str []), (.str [])])
  | 50 => some (.nil .slice)
  | 52 => some (.agg [oi, oi, oi, (.nil .slice)])
  | 54 => some (.agg [oi, oi, oi, .agg [.agg [oi, oi], oi, oi, oi, (.str []), (.str []), (.str [])], oi, oi, (.nil .slice), .agg [oi, (.arr 3 8 (Vector.replicate 8 (default : Int))), (.arr 2 8 (Vector.replicate 8 (default : Int))), (.arr 3 8 (Vector.replicate 8 (default : Int)))], oi, (.arr 2 8 (Vector.replicate 8 (default : Int))), oi, .agg [oi, oi, oi, (.nil .slice)], oi, oi, oi])
  | 55 => some (.agg [oi, .agg [oi, oi], .agg [oi, oi], .agg [oi, oi], oi, (.nil .slice), .agg [oi, oi, oi, .agg [.agg [oi, oi], oi, oi, oi, (.str []), (.str []), (.str [])], oi, oi, (.nil .slice), .agg [oi, (.arr 3 8 (Vector.replicate 8 (default : Int))), (.arr 2 8 (Vector.replicate 8 (default : Int))), (.arr 3 8 (Vector.replicate 8 (default : Int)))], oi, (.arr 2 8 (Vector.replicate 8 (default : Int))), oi, .agg [oi, oi, oi, (.nil .slice)], oi, oi, oi], oi, (.arr 2 8 (Vector.replicate 8 (default : Int))), oi, oi, (.nil .slice), .agg [oi, (.arr 3 8 (Vector.replicate 8 (default : Int))), (.arr 2 8 (Vector.replicate 8 (default : Int))), (.arr 3 8 (Vector.replicate 8 (default : Int)))], .agg [oi, oi, oi, (.nil .slice)]])
  | 56 => some (.agg [oi, .agg [oi, oi], .agg [oi, oi], .agg [oi, oi], oi, (.nil .slice), .agg [oi, oi, oi, .agg [.agg [oi, oi], oi, oi, oi, (.str []), (.str []), (.str [])], oi, oi, (.nil .slice), .agg [oi, (.arr 3 8 (Vector.replicate 8 (default : Int))), (.arr 2 8 (Vector.replicate 8 (default : Int))), (.arr 3 8 (Vector.replicate 8 (default : Int)))], oi, (.arr 2 8 (Vector.replicate 8 (default : Int))), oi, .agg [oi, oi, oi, (.nil .slice)], oi, oi, oi], oi, (.arr 2 8 (Vector.replicate 8 (default : Int))), oi, oi, (.nil .slice), .agg [oi, (.arr 3 8 (Vector.replicate 8 (default : Int))), (.arr 2 8 (Vector.replicate 8 (default : Int))), (.arr 3 8 (Vector.replicate 8 (default : Int)))], .agg [oi, oi, oi, (.nil .slice)]])
  | 59 => some (.nil .slice)
  | 74 => some (oi)
  | 76 => some (.nil .slice)
  | 81 => some (.agg [oi, .agg [oi, oi], .agg [oi, oi, oi, .agg [.agg [oi, oi], oi, oi, oi, (.str []), (.str []), (.str [])], oi, oi, (.nil .slice), .agg [oi, (.arr 3 8 (Vector.replicate 8 (default : Int))), (.arr 2 8 (Vector.replicate 8 (default : Int))), (.arr 3 8 (Vector.replicate 8 (default : Int)))], oi, (.arr 2 8 (Vector.replicate 8 (default : Int))), oi, .agg [oi, oi, oi, (.nil .slice)], oi, oi, oi]])
  | 113 => some (.nil .slice)
  | 115 => some (.agg [oi, oi, (.str []), (.nil .slice)])
  | 117 => some (.agg [oi, .agg [oi, oi], oi])
  | 119 => some (.agg [oi, oi, .agg [oi, .agg [oi, oi], oi]])
  | 122 => some (.agg [(.str []), (.str [])])
  | _ => none
def Zok (t : Nat) (z : TV τ) : Prop := ∃ i, E.ty t = some i ∧ z.ok = true ∧ CW i.zero (z.cells C) ∧ z.isAgg = i.agg
theorem zok2 : Zok 2 (oi) := ⟨ti2, rfl, rfl, CW.of_eq (by kernel_rfl), rfl⟩
theorem zok3 : Zok 3 (oi) := ⟨ti3, rfl, rfl, CW.of_eq (by kernel_rfl), rfl⟩
theorem zok4 : Zok 4 (.bool false) := ⟨ti4, rfl, rfl, CW.of_eq (by kernel_rfl), rfl⟩
theorem zok5 : Zok 5 (.int .u8 0) := ⟨ti5, rfl, rfl, CW.of_eq (by kernel_rfl), rfl⟩
theorem zok9 : Zok 9 (.str []) := ⟨ti9, rfl, rfl, CW.of_eq (by kernel_rfl), rfl⟩
theorem zok12 : Zok 12 (.int .u64 0) := ⟨ti12, rfl, rfl, CW.of_eq (by kernel_rfl), rfl⟩
theorem zok21 : Zok 21 (.int .i32 0) := ⟨ti21, rfl, rfl, CW.of_eq (by kernel_rfl), rfl⟩
theorem zok22 : Zok 22 (.arr 3 8 (Vector.replicate 8 (default : Int))) := ⟨ti22, rfl, rfl, CW.of_eq (by kernel_rfl), rfl⟩
theorem zok23 : Zok 23 (.arr 2 8 (Vector.replicate 8 (default : Int))) := ⟨ti23, rfl, rfl, CW.of_eq (by kernel_rfl), rfl⟩
theorem zok24 : Zok 24 (.arr 2 8 (Vector.replicate 8 (default : Int))) := ⟨ti24, rfl, rfl, CW.of_eq (by kernel_rfl), rfl⟩
theorem zok25 : Zok 25 (.agg [oi, (.arr 3 8 (Vector.replicate 8 (default : Int))), (.arr 2 8 (Vector.replicate 8 (default : Int))), (.arr 3 8 (Vector.replicate 8 (default : Int)))]) := ⟨ti25, rfl, rfl, CW.of_eq (by kernel_rfl), rfl⟩
theorem zok26 : Zok 26 (.agg [oi, (.arr 3 8 (Vector.replicate 8 (default : Int))), (.arr 2 8 (Vector.replicate 8 (default : Int))), (.arr 3 8 (Vector.replicate 8 (default : Int)))]) := ⟨ti26, rfl, rfl, CW.of_eq (by kernel_rfl), rfl⟩
theorem zok27 : Zok 27 (.nil .slice) := ⟨ti27, rfl, rfl, CW.of_eq (by kernel_rfl), rfl⟩
theorem zok28 : Zok 28 (.nil .slice) := ⟨ti28, rfl, rfl, CW.of_eq (by kernel_rfl), rfl⟩
theorem zok29 : Zok 29 (.arr 28 8 (Vector.replicate 8 (default : List (GOp)))) := ⟨ti29, rfl, rfl, (show ((.arr 28 8 (Vector.replicate 8 (default : List (GOp))) : TV τ).cells C) = [.asl 8 [], .asl 8 [], .asl 8 [], .asl 8 [], .asl 8 [], .asl 8 [], .asl 8 [], .asl 8 []] from by kernel_rfl) ▸ zz_cw (trivial), rfl⟩
theorem zok30 : Zok 30 (.arr 24 8 (Vector.replicate 8 (default : Vector (Int) 8))) := ⟨ti30, rfl, rfl, CW.of_eq (by kernel_rfl), rfl⟩
theorem zok31 : Zok 31 (.nil .slice) := ⟨ti31, rfl, rfl, CW.of_eq (by kernel_rfl), rfl⟩
theorem zok32 : Zok 32 (.nil .slice) := ⟨ti32, rfl, rfl, CW.of_eq (by kernel_rfl), rfl⟩
theorem zok33 : Zok 33 (.agg [oi, oi, (.bool false), .agg [oi, (.arr 3 8 (Vector.replicate 8 (default : Int))), (.arr 2 8 (Vector.replicate 8 (default : Int))), (.arr 3 8 (Vector.replicate 8 (default : Int)))], oi, (.arr 2 8 (Vector.replicate 8 (default : Int))), (.arr 2 8 (Vector.replicate 8 (default : Int))), (.nil .slice), (.nil .slice), oi, (.arr 2 8 (Vector.replicate 8 (default : Int))), (.arr 28 8 (Vector.replicate 8 (default : List (GOp)))), (.arr 24 8 (Vector.replicate 8 (default : Vector (Int) 8))), (.arr 2 8 (Vector.replicate 8 (default : Int))), (.arr 2 8 (Vector.replicate 8 (default : Int))), (.arr 2 8 (Vector.replicate 8 (default : Int))), (.nil .slice), (.nil .slice)]) := ⟨ti33, rfl, rfl, (show ((.agg [oi, oi, (.bool false), .agg [oi, (.arr 3 8 (Vector.replicate 8 (default : Int))), (.arr 2 8 (Vector.replicate 8 (default : Int))), (.arr 3 8 (Vector.replicate 8 (default : Int)))], oi, (.arr 2 8 (Vector.replicate 8 (default : Int))), (.arr 2 8 (Vector.replicate 8 (default : Int))), (.nil .slice), (.nil .slice), oi, (.arr 2 8 (Vector.replicate 8 (default : Int))), (.arr 28 8 (Vector.replicate 8 (default : List (GOp)))), (.arr 24 8 (Vector.replicate 8 (default : Vector (Int) 8))), (.arr 2 8 (Vector.replicate 8 (default : Int))), (.arr 2 8 (Vector.replicate 8 (default : Int))), (.arr 2 8 (Vector.replicate 8 (default : Int))), (.nil .slice), (.nil .slice)] : TV τ).cells C) = [.v (.int .i64 0), .v (.int .i64 0), .v (.bool false), .v (.int .i64 0), .v (.int .i64 0), .v (.int .i64 0), .v (.int .i64 0), .v (.int .i64 0), .v (.int .i64 0), .v (.int .i64 0), .v (.int .i64 0), .v (.int .i64 0), .v (.int .i64 0), .v (.int .i64 0), .v (.int .i64 0), .v (.int .i64 0), .v (.int .i64 0), .v (.int .i64 0), .v (.int .i64 0), .v (.int .i64 0), .v (.int .i64 0), .v (.int .i64 0), .v (.int .i64 0), .v (.int .i64 0), .v (.int .i64 0), .v (.int .i64 0), .v (.int .i64 0), .v (.int .i64 0), .v (.int .i64 0), .v (.int .i64 0), .v (.int .i64 0), .v (.int .i64 0), .v (.int .i64 0), .v (.int .i64 0), .v (.int .i64 0), .v (.int .i64 0), .v (.int .i64 0), .v (.int .i64 0), .v (.int .i64 0), .v (.int .i64 0), .v (.int .i64 0), .v (.int .i64 0), .v (.int .i64 0), .v (.int .i64 0), .v (.int .i64 0), .v (.slice none 0 0), .v (.slice none 0 0), .v (.int .i64 0), .v (.int .i64 0), .v (.int .i64 0), .v (.int .i64 0), .v (.int .i64 0), .v (.int .i64 0), .v (.int .i64 0), .v (.int .i64 0), .v (.int .i64 0), .asl 8 [], .asl 8 [], .asl 8 [], .asl 8 [], .asl 8 [], .asl 8 [], .asl 8 [], .asl 8 [], .v (.int .i64 0), .v (.int .i64 0), .v (.int .i64 0), .v (.int .i64 0), .v (.int .i64 0), .v (.int .i64 0), .v (.int .i64 0), .v (.int .i64 0), .v (.int .i64 0), .v (.int .i64 0), .v (.int .i64 0), .v (.int .i64 0), .v (.int .i64 0), .v (.int .i64 0), .v (.int .i64 0), .v (.int .i64 0), .v (.int .i64 0), .v (.int .i64 0), .v (.int .i64 0), .v (.int .i64 0), .v (.int .i64 0), .v (.int .i64 0), .v (.int .i64 0), .v (.int .i64 0), .v (.int .i64 0), .v (.int .i64 0), .v (.int .i64 0), .v (.int .i64 0), .v (.int .i64 0), .v (.int .i64 0), .v (.int .i64 0), .v (.int .i64 0), .v (.int .i64 0), .v (.int .i64 0), .v (.int .i64 0), .v (.int .i64 0), .v (.int .i64 0), .v (.int .i64 0), .v (.int .i64 0), .v (.int .i64 0), .v (.int .i64 0), .v (.int .i64 0), .v (.int .i64 0), .v (.int .i64 0), .v (.int .i64 0), .v (.int .i64 0), .v (.int .i64 0), .v (.int .i64 0), .v (.int .i64 0), .v (.int .i64 0), .v (.int .i64 0), .v (.int .i64 0), .v (.int .i64 0), .v (.int .i64 0), .v (.int .i64 0), .v (.int .i64 0), .v (.int .i64 0), .v (.int .i64 0), .v (.int .i64 0), .v (.int .i64 0), .v (.int .i64 0), .v (.int .i64 0), .v (.int .i64 0), .v (.int .i64 0), .v (.int .i64 0), .v (.int .i64 0), .v (.int .i64 0), .v (.int .i64 0), .v (.int .i64 0), .v (.int .i64 0), .v (.int .i64 0), .v (.int .i64 0), .v (.int .i64 0), .v (.int .i64 0), .v (.int .i64 0), .v (.int .i64 0), .v (.int .i64 0), .v (.int .i64 0), .v (.int .i64 0), .v (.int .i64 0), .v (.int .i64 0), .v (.int .i64 0), .v (.int .i64 0), .v (.int .i64 0), .v (.int .i64 0), .v (.int .i64 0), .v (.int .i64 0), .v (.int .i64 0), .v (.slice none 0 0), .v (.slice none 0 0)] from by kernel_rfl) ▸ zz_cw (⟨rfl, ⟨rfl, ⟨rfl, ⟨rfl, ⟨rfl, ⟨rfl, ⟨rfl, ⟨rfl, ⟨rfl, ⟨rfl, ⟨rfl, ⟨rfl, ⟨rfl, ⟨rfl, ⟨rfl, ⟨rfl, ⟨rfl, ⟨rfl, ⟨rfl, ⟨rfl, ⟨rfl, ⟨rfl, ⟨rfl, ⟨rfl, ⟨rfl, ⟨rfl, ⟨rfl, ⟨rfl, ⟨rfl, ⟨rfl, ⟨rfl, ⟨rfl, ⟨rfl, ⟨rfl, ⟨rfl, ⟨rfl, ⟨rfl, ⟨rfl, ⟨rfl, ⟨rfl, ⟨rfl, ⟨rfl, ⟨rfl, ⟨rfl, ⟨rfl, ⟨rfl, ⟨rfl, ⟨rfl, ⟨rfl, ⟨rfl, ⟨rfl, ⟨rfl, ⟨rfl, ⟨rfl, ⟨rfl, ⟨rfl, ⟨rfl, ⟨rfl, ⟨rfl, ⟨rfl, ⟨rfl, ⟨rfl, ⟨rfl, ⟨rfl, ⟨rfl, ⟨rfl, ⟨rfl, ⟨rfl, ⟨rfl, ⟨rfl, ⟨rfl, ⟨rfl, ⟨rfl, ⟨rfl, ⟨rfl, ⟨rfl, ⟨rfl, ⟨rfl, ⟨rfl, ⟨rfl, ⟨rfl, ⟨rfl, ⟨rfl, ⟨rfl, ⟨rfl, ⟨rfl, ⟨rfl, ⟨rfl, ⟨rfl, ⟨rfl, ⟨rfl, ⟨rfl, ⟨rfl, ⟨rfl, ⟨rfl, ⟨rfl, ⟨rfl, ⟨rfl, ⟨rfl, ⟨rfl, ⟨rfl, ⟨rfl, ⟨rfl, ⟨rfl, ⟨rfl, ⟨rfl, ⟨rfl, ⟨rfl, ⟨rfl, ⟨rfl, ⟨rfl, ⟨rfl, ⟨rfl, ⟨rfl, ⟨rfl, ⟨rfl, ⟨rfl, ⟨rfl, ⟨rfl, ⟨rfl, ⟨rfl, ⟨rfl, ⟨rfl, ⟨rfl, ⟨rfl, ⟨rfl, ⟨rfl, ⟨rfl, ⟨rfl, ⟨rfl, ⟨rfl, ⟨rfl, ⟨rfl, ⟨rfl, ⟨rfl, ⟨rfl, ⟨rfl, ⟨rfl, ⟨rfl, ⟨rfl, ⟨rfl, ⟨rfl, ⟨rfl, ⟨rfl, ⟨rfl, ⟨rfl, trivial⟩⟩⟩⟩⟩⟩⟩⟩⟩⟩⟩⟩⟩⟩⟩⟩⟩⟩⟩⟩⟩⟩⟩⟩⟩⟩⟩⟩⟩⟩⟩⟩⟩⟩⟩⟩⟩⟩⟩⟩⟩⟩⟩⟩⟩⟩⟩⟩⟩⟩⟩⟩⟩⟩⟩⟩⟩⟩⟩⟩⟩⟩⟩⟩⟩⟩⟩⟩⟩⟩⟩⟩⟩⟩⟩⟩⟩⟩⟩⟩⟩⟩⟩⟩⟩⟩⟩⟩⟩⟩⟩⟩⟩⟩⟩⟩⟩⟩⟩⟩⟩⟩⟩⟩⟩⟩⟩⟩⟩⟩⟩⟩⟩⟩⟩⟩⟩⟩⟩⟩⟩⟩⟩⟩⟩⟩⟩⟩⟩⟩⟩⟩⟩⟩⟩⟩⟩⟩⟩⟩⟩⟩⟩⟩⟩⟩), rfl⟩
theorem zok34 : Zok 34 (.agg [oi, oi, (.bool false), .agg [oi, (.arr 3 8 (Vector.replicate 8 (default : Int))), (.arr 2 8 (Vector.replicate 8 (default : Int))), (.arr 3 8 (Vector.replicate 8 (default : Int)))], oi, (.arr 2 8 (Vector.replicate 8 (default : Int))), (.arr 2 8 (Vector.replicate 8 (default : Int))), (.nil .slice), (.nil .slice), oi, (.arr 2 8 (Vector.replicate 8 (default : Int))), (.arr 28 8 (Vector.replicate 8 (default : List (GOp)))), (.arr 24 8 (Vector.replicate 8 (default : Vector (Int) 8))), (.arr 2 8 (Vector.replicate 8 (default : Int))), (.arr 2 8 (Vector.replicate 8 (default : Int))), (.arr 2 8 (Vector.replicate 8 (default : Int))), (.nil .slice), (.nil .slice)]) := ⟨ti34, rfl, rfl, (show ((.agg [oi, oi, (.bool false), .agg [oi, (.arr 3 8 (Vector.replicate 8 (default : Int))), (.arr 2 8 (Vector.replicate 8 (default : Int))), (.arr 3 8 (Vector.replicate 8 (default : Int)))], oi, (.arr 2 8 (Vector.replicate 8 (default : Int))), (.arr 2 8 (Vector.replicate 8 (default : Int))), (.nil .slice), (.nil .slice), oi, (.arr 2 8 (Vector.replicate 8 (default : Int))), (.arr 28 8 (Vector.replicate 8 (default : List (GOp)))), (.arr 24 8 (Vector.replicate 8 (default : Vector (Int) 8))), (.arr 2 8 (Vector.replicate 8 (default : Int))), (.arr 2 8 (Vector.replicate 8 (default : Int))), (.arr 2 8 (Vector.replicate 8 (default : Int))), (.nil .slice), (.nil .slice)] : TV τ).cells C) = [.v (.int .i64 0), .v (.int .i64 0), .v (.bool false), .v (.int .i64 0), .v (.int .i64 0), .v (.int .i64 0), .v (.int .i64 0), .v (.int .i64 0), .v (.int .i64 0), .v (.int .i64 0), .v (.int .i64 0), .v (.int .i64 0), .v (.int .i64 0), .v (.int .i64 0), .v (.int .i64 0), .v (.int .i64 0), .v (.int .i64 0), .v (.int .i64 0), .v (.int .i64 0), .v (.int .i64 0), .v (.int .i64 0), .v (.int .i64 0), .v (.int .i64 0), .v (.int .i64 0), .v (.int .i64 0), .v (.int .i64 0), .v (.int .i64 0), .v (.int .i64 0), .v (.int .i64 0), .v (.int .i64 0), .v (.int .i64 0), .v (.int .i64 0), .v (.int .i64 0), .v (.int .i64 0), .v (.int .i64 0), .v (.int .i64 0), .v (.int .i64 0), .v (.int .i64 0), .v (.int .i64 0), .v (.int .i64 0), .v (.int .i64 0), .v (.int .i64 0), .v (.int .i64 0), .v (.int .i64 0), .v (.int .i64 0), .v (.slice none 0 0), .v (.slice none 0 0), .v (.int .i64 0), .v (.int .i64 0), .v (.int .i64 0), .v (.int .i64 0), .v (.int .i64 0), .v (.int .i64 0), .v (.int .i64 0), .v (.int .i64 0), .v (.int .i64 0), .asl 8 [], .asl 8 [], .asl 8 [], .asl 8 [], .asl 8 [], .asl 8 [], .asl 8 [], .asl 8 [], .v (.int .i64 0), .v (.int .i64 0), .v (.int .i64 0), .v (.int .i64 0), .v (.int .i64 0), .v (.int .i64 0), .v (.int .i64 0), .v (.int .i64 0), .v (.int .i64 0), .v (.int .i64 0), .v (.int .i64 0), .v (.int .i64 0), .v (.int .i64 0), .v (.int .i64 0), .v (.int .i64 0), .v (.int .i64 0), .v (.int .i64 0), .v (.int .i64 0), .v (.int .i64 0), .v (.int .i64 0), .v (.int .i64 0), .v (.int .i64 0), .v (.int .i64 0), .v (.int .i64 0), .v (.int .i64 0), .v (.int .i64 0), .v (.int .i64 0), .v (.int .i64 0), .v (.int .i64 0), .v (.int .i64 0), .v (.int .i64 0), .v (.int .i64 0), .v (.int .i64 0), .v (.int .i64 0), .v (.int .i64 0), .v (.int .i64 0), .v (.int .i64 0), .v (.int .i64 0), .v (.int .i64 0), .v (.int .i64 0), .v (.int .i64 0), .v (.int .i64 0), .v (.int .i64 0), .v (.int .i64 0), .v (.int .i64 0), .v (.int .i64 0), .v (.int .i64 0), .v (.int .i64 0), .v (.int .i64 0), .v (.int .i64 0), .v (.int .i64 0), .v (.int .i64 0), .v (.int .i64 0), .v (.int .i64 0), .v (.int .i64 0), .v (.int .i64 0), .v (.int .i64 0), .v (.int .i64 0), .v (.int .i64 0), .v (.int .i64 0), .v (.int .i64 0), .v (.int .i64 0), .v (.int .i64 0), .v (.int .i64 0), .v (.int .i64 0), .v (.int .i64 0), .v (.int .i64 0), .v (.int .i64 0), .v (.int .i64 0), .v (.int .i64 0), .v (.int .i64 0), .v (.int .i64 0), .v (.int .i64 0), .v (.int .i64 0), .v (.int .i64 0), .v (.int .i64 0), .v (.int .i64 0), .v (.int .i64 0), .v (.int .i64 0), .v (.int .i64 0), .v (.int .i64 0), .v (.int .i64 0), .v (.int .i64 0), .v (.int .i64 0), .v (.int .i64 0), .v (.int .i64 0), .v (.int .i64 0), .v (.int .i64 0), .v (.slice none 0 0), .v (.slice none 0 0)] from by kernel_rfl) ▸ zz_cw (⟨rfl, ⟨rfl, ⟨rfl, ⟨rfl, ⟨rfl, ⟨rfl, ⟨rfl, ⟨rfl, ⟨rfl, ⟨rfl, ⟨rfl, ⟨rfl, ⟨rfl, ⟨rfl, ⟨rfl, ⟨rfl, ⟨rfl, ⟨rfl, ⟨rfl, ⟨rfl, ⟨rfl, ⟨rfl, ⟨rfl, ⟨rfl, ⟨rfl, ⟨rfl, ⟨rfl, ⟨rfl, ⟨rfl, ⟨rfl, ⟨rfl, ⟨rfl, ⟨rfl, ⟨rfl, ⟨rfl, ⟨rfl, ⟨rfl, ⟨rfl, ⟨rfl, ⟨rfl, ⟨rfl, ⟨rfl, ⟨rfl, ⟨rfl, ⟨rfl, ⟨rfl, ⟨rfl, ⟨rfl, ⟨rfl, ⟨rfl, ⟨rfl, ⟨rfl, ⟨rfl, ⟨rfl, ⟨rfl, ⟨rfl, ⟨rfl, ⟨rfl, ⟨rfl, ⟨rfl, ⟨rfl, ⟨rfl, ⟨rfl, ⟨rfl, ⟨rfl, ⟨rfl, ⟨rfl, ⟨rfl, ⟨rfl, ⟨rfl, ⟨rfl, ⟨rfl, ⟨rfl, ⟨rfl, ⟨rfl, ⟨rfl, ⟨rfl, ⟨rfl, ⟨rfl, ⟨rfl, ⟨rfl, ⟨rfl, ⟨rfl, ⟨rfl, ⟨rfl, ⟨rfl, ⟨rfl, ⟨rfl, ⟨rfl, ⟨rfl, ⟨rfl, ⟨rfl, ⟨rfl, ⟨rfl, ⟨rfl, ⟨rfl, ⟨rfl, ⟨rfl, ⟨rfl, ⟨rfl, ⟨rfl, ⟨rfl, ⟨rfl, ⟨rfl, ⟨rfl, ⟨rfl, ⟨rfl, ⟨rfl, ⟨rfl, ⟨rfl, ⟨rfl, ⟨rfl, ⟨rfl, ⟨rfl, ⟨rfl, ⟨rfl, ⟨rfl, ⟨rfl, ⟨rfl, ⟨rfl, ⟨rfl, ⟨rfl, ⟨rfl, ⟨rfl, ⟨rfl, ⟨rfl, ⟨rfl, ⟨rfl, ⟨rfl, ⟨rfl, ⟨rfl, ⟨rfl, ⟨rfl, ⟨rfl, ⟨rfl, ⟨rfl, ⟨rfl, ⟨rfl, ⟨rfl, ⟨rfl, ⟨rfl, ⟨rfl, ⟨rfl, ⟨rfl, ⟨rfl, ⟨rfl, trivial⟩⟩⟩⟩⟩⟩⟩⟩⟩⟩⟩⟩⟩⟩⟩⟩⟩⟩⟩⟩⟩⟩⟩⟩⟩⟩⟩⟩⟩⟩⟩⟩⟩⟩⟩⟩⟩⟩⟩⟩⟩⟩⟩⟩⟩⟩⟩⟩⟩⟩⟩⟩⟩⟩⟩⟩⟩⟩⟩⟩⟩⟩⟩⟩⟩⟩⟩⟩⟩⟩⟩⟩⟩⟩⟩⟩⟩⟩⟩⟩⟩⟩⟩⟩⟩⟩⟩⟩⟩⟩⟩⟩⟩⟩⟩⟩⟩⟩⟩⟩⟩⟩⟩⟩⟩⟩⟩⟩⟩⟩⟩⟩⟩⟩⟩⟩⟩⟩⟩⟩⟩⟩⟩⟩⟩⟩⟩⟩⟩⟩⟩⟩⟩⟩⟩⟩⟩⟩⟩⟩⟩⟩⟩⟩⟩⟩), rfl⟩
theorem zok35 : Zok 35 (.agg [oi, oi]) := ⟨ti35, rfl, rfl, CW.of_eq (by kernel_rfl), rfl⟩
theorem zok36 : Zok 36 (.agg [oi, oi]) := ⟨ti36, rfl, rfl, CW.of_eq (by kernel_rfl), rfl⟩
theorem zok38 : Zok 38 (.nil .slice) := ⟨ti38, rfl, rfl, CW.of_eq (by kernel_rfl), rfl⟩
theorem zok44 : Zok 44 (.agg [oi, oi]) := ⟨ti44, rfl, rfl, CW.of_eq (by kernel_rfl), rfl⟩
theorem zok45 : Zok 45 (.nil .slice) := ⟨ti45, rfl, rfl, CW.of_eq (by kernel_rfl), rfl⟩
theorem zok47 : Zok 47 (.agg [oi, oi]) := ⟨ti47, rfl, rfl, CW.of_eq (by kernel_rfl), rfl⟩
theorem zok49 : Zok 49 (.agg [.agg [oi, oi], oi, oi, oi, (.str []), (.str []), (.str [])]) := ⟨ti49, rfl, rfl, CW.of_eq (by kernel_rfl), rfl⟩
theorem zok50 : Zok 50 (.nil .slice) := ⟨ti50, rfl, rfl, CW.of_eq (by kernel_rfl), rfl⟩
theorem zok52 : Zok 52 (.agg [oi, oi, oi, (.nil .slice)]) := ⟨ti52, rfl, rfl, CW.of_eq (by kernel_rfl), rfl⟩
theorem zok54 : Zok 54 (.agg [oi, oi, oi, .agg [.agg [oi, oi], oi, oi, oi, (.str []), (.str []), (.str [])], oi, oi, (.nil .slice), .agg [oi, (.arr 3 8 (Vector.replicate 8 (default : Int))), (.arr 2 8 (Vector.replicate 8 (default : Int))), (.arr 3 8 (Vector.replicate 8 (default : Int)))], oi, (.arr 2 8 (Vector.replicate 8 (default : Int))), oi, .agg [oi, oi, oi, (.nil .slice)], oi, oi, oi]) := ⟨ti54, rfl, rfl, CW.of_eq (by kernel_rfl), rfl⟩
theorem zok55 : Zok 55 (.agg [oi, .agg [oi, oi], .agg [oi, oi], .agg [oi, oi], oi, (.nil .slice), .agg [oi, oi, oi, .agg [.agg [oi, oi], oi, oi, oi, (.str []), (.str []), (.str [])], oi, oi, (.nil .slice), .agg [oi, (.arr 3 8 (Vector.replicate 8 (default : Int))), (.arr 2 8 (Vector.replicate 8 (default : Int))), (.arr 3 8 (Vector.replicate 8 (default : Int)))], oi, (.arr 2 8 (Vector.replicate 8 (default : Int))), oi, .agg [oi, oi, oi, (.nil .slice)], oi, oi, oi], oi, (.arr 2 8 (Vector.replicate 8 (default : Int))), oi, oi, (.nil .slice), .agg [oi, (.arr 3 8 (Vector.replicate 8 (default : Int))), (.arr 2 8 (Vector.replicate 8 (default : Int))), (.arr 3 8 (Vector.replicate 8 (default : Int)))], .agg [oi, oi, oi, (.nil .slice)]]) := ⟨ti55, rfl, rfl, CW.of_eq (by kernel_rfl), rfl⟩
theorem zok56 : Zok 56 (.agg [oi, .agg [oi, oi], .agg [oi, oi], .agg [oi, oi], oi, (.nil .slice), .agg [oi, oi, oi, .agg [.agg [oi, oi], oi, oi, oi, (.str []), (.str []), (.str [])], oi, oi, (.nil .slice), .agg [oi, (.arr 3 8 (Vector.replicate 8 (default : Int))), (.arr 2 8 (Vector.replicate 8 (default : Int))), (.arr 3 8 (Vector.replicate 8 (default : Int)))], oi, (.arr 2 8 (Vector.replicate 8 (default : Int))), oi, .agg [oi, oi, oi, (.nil .slice)], oi, oi, oi], oi, (.arr 2 8 (Vector.replicate 8 (default : Int))), oi, oi, (.nil .slice), .agg [oi, (.arr 3 8 (Vector.replicate 8 (default : Int))), (.arr 2 8 (Vector.replicate 8 (default : Int))), (.arr 3 8 (Vector.replicate 8 (default : Int)))], .agg [oi, oi, oi, (.nil .slice)]]) := ⟨ti56, rfl, rfl, CW.of_eq (by kernel_rfl), rfl⟩
theorem zok59 : Zok 59 (.nil .slice) := ⟨ti59, rfl, rfl, CW.of_eq (by kernel_rfl), rfl⟩
theorem zok74 : Zok 74 (oi) := ⟨ti74, rfl, rfl, CW.of_eq (by kernel_rfl), rfl⟩
theorem zok76 : Zok 76 (.nil .slice) := ⟨ti76, rfl, rfl, CW.of_eq (by kernel_rfl), rfl⟩
theorem zok81 : Zok 81 (.agg [oi, .agg [oi, oi], .agg [oi, oi, oi, .agg [.agg [oi, oi], oi, oi, oi, (.str []), (.str []), (.str [])], oi, oi, (.nil .slice), .agg [oi, (.arr 3 8 (Vector.replicate 8 (default : Int))), (.arr 2 8 (Vector.replicate 8 (default : Int))), (.arr 3 8 (Vector.replicate 8 (default : Int)))], oi, (.arr 2 8 (Vector.replicate 8 (default : Int))), oi, .agg [oi, oi, oi, (.nil .slice)], oi, oi, oi]]) := ⟨ti81, rfl, rfl, CW.of_eq (by kernel_rfl), rfl⟩
theorem zok113 : Zok 113 (.nil .slice) := ⟨ti113, rfl, rfl, CW.of_eq (by kernel_rfl), rfl⟩
theorem zok115 : Zok 115 (.agg [oi, oi, (.str []), (.nil .slice)]) := ⟨ti115, rfl, rfl, CW.of_eq (by kernel_rfl), rfl⟩
theorem zok117 : Zok 117 (.agg [oi, .agg [oi, oi], oi]) := ⟨ti117, rfl, rfl, CW.of_eq (by kernel_rfl), rfl⟩
theorem zok119 : Zok 119 (.agg [oi, oi, .agg [oi, .agg [oi, oi], oi]]) := ⟨ti119, rfl, rfl, CW.of_eq (by kernel_rfl), rfl⟩
theorem zok122 : Zok 122 (.agg [(.str []), (.str [])]) := ⟨ti122, rfl, rfl, CW.of_eq (by kernel_rfl), rfl⟩
noncomputable def D0 : TEnv τ := ⟨E, C, zeroT⟩
theorem zeroOk : ∀ t x, zeroT t = some x → ∃ i, E.ty t = some i ∧ x.ok = true ∧ CW i.zero (x.cells C) ∧ x.isAgg = i.agg := by
  intro t x h
  unfold zeroT at h
  split at h <;> first
    | (cases h; first | exact zok2 | exact zok3 | exact zok4 | exact zok5 | exact zok9 | exact zok12 | exact zok21 | exact zok22 | exact zok23 | exact zok24 | exact zok25 | exact zok26 | exact zok27 | exact zok28 | exact zok29 | exact zok30 | exact zok31 | exact zok32 | exact zok33 | exact zok34 | exact zok35 | exact zok36 | exact zok38 | exact zok44 | exact zok45 | exact zok47 | exact zok49 | exact zok50 | exact zok52 | exact zok54 | exact zok55 | exact zok56 | exact zok59 | exact zok74 | exact zok76 | exact zok81 | exact zok113 | exact zok115 | exact zok117 | exact zok119 | exact zok122)
    | cases h
theorem d0Ok : D0.Ok := ⟨eOk, eEq, cOk, zeroOk⟩
end Go.Proofs.Ytllmdbbhokaokaa
