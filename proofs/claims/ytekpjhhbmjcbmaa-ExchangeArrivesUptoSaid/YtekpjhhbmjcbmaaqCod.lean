/-
The types of this seat's program, as the evaluator asks them, and how their data are told. Written by wip/tools/gen2.py.
-/
import Derived.Test.YtekpjhhbmjcbmaaProg
import Derived.Test.YtekpjhhbmjcbmaaqTvR
import Derived.KernelRfl
set_option linter.unusedVariables false
set_option linter.unusedSimpArgs false
set_option maxHeartbeats 8000000
set_option maxRecDepth 100000
namespace Go.Proofs.Ytekpjhhbmjcbmaa
open Go Go.Ev
def fd (n : String) (t o b : Nat) : Field := ⟨n, t, o, false, "", "", b⟩
def wi : Value := .int .i64 0
def wn : Value := .slice none 0 0
def wz : Value := .string ⟨#[]⟩
theorem app_eq {a a' b b' : List AV} (h : a = a') (h' : b = b') : a ++ b = a' ++ b' := h ▸ h' ▸ rfl
theorem len_app {a b : List AV} {m n : Nat} (h : a.length = m) (h' : b.length = n) : (a ++ b).length = m + n := by rw [List.length_append, h, h']
theorem ok_t : true = true := rfl
theorem ok_and {a b : Bool} (h : a = true) (h' : b = true) : (a && b) = true := by rw [h, h']; rfl
theorem all_app {a b : List AV} (h : a.all AV.one = true) (h' : b.all AV.one = true) : (a ++ b).all AV.one = true := by rw [List.all_append, h, h']; rfl
def ti2 : TI := ⟨.int .i64, 1, 8, [.v wi]⟩
def ti3 : TI := ⟨.int .i64, 1, 8, [.v wi]⟩
def ti4 : TI := ⟨.bool, 1, 1, [.v (.bool false)]⟩
def ti5 : TI := ⟨.int .u8, 1, 1, [.v (.int .u8 0)]⟩
def ti9 : TI := ⟨.string, 1, 16, [.v wz]⟩
def ti12 : TI := ⟨.int .u64, 1, 8, [.v (.int .u64 0)]⟩
def ti21 : TI := ⟨.int .i32, 1, 4, [.v (.int .i32 0)]⟩
def ti22 : TI := ⟨.array 8 3, 8, 64, [.v wi, .v wi, .v wi, .v wi, .v wi, .v wi, .v wi, .v wi]⟩
def ti23 : TI := ⟨.array 8 2, 8, 64, [.v wi, .v wi, .v wi, .v wi, .v wi, .v wi, .v wi, .v wi]⟩
def ti24 : TI := ⟨.array 8 2, 8, 64, [.v wi, .v wi, .v wi, .v wi, .v wi, .v wi, .v wi, .v wi]⟩
def ti25 : TI := ⟨.struct #[fd "Number" 2 0 0, fd "States" 22 1 8, fd "Seals" 24 9 72, fd "Sponsor" 22 17 136], 25, 200, [.v wi, .v wi, .v wi, .v wi, .v wi, .v wi, .v wi, .v wi, .v wi, .v wi, .v wi, .v wi, .v wi, .v wi, .v wi, .v wi, .v wi, .v wi, .v wi, .v wi, .v wi, .v wi, .v wi, .v wi, .v wi]⟩
def ti26 : TI := ti25
def ti27 : TI := ⟨.slice 98, 1, 24, [.v wn]⟩
def ti28 : TI := ⟨.slice 43, 1, 24, [.v wn]⟩
def ti29 : TI := ⟨.array 8 28, 8, 192, [.v wn, .v wn, .v wn, .v wn, .v wn, .v wn, .v wn, .v wn]⟩
def ti30 : TI := ⟨.array 8 24, 64, 512, [.v wi, .v wi, .v wi, .v wi, .v wi, .v wi, .v wi, .v wi, .v wi, .v wi, .v wi, .v wi, .v wi, .v wi, .v wi, .v wi, .v wi, .v wi, .v wi, .v wi, .v wi, .v wi, .v wi, .v wi, .v wi, .v wi, .v wi, .v wi, .v wi, .v wi, .v wi, .v wi, .v wi, .v wi, .v wi, .v wi, .v wi, .v wi, .v wi, .v wi, .v wi, .v wi, .v wi, .v wi, .v wi, .v wi, .v wi, .v wi, .v wi, .v wi, .v wi, .v wi, .v wi, .v wi, .v wi, .v wi, .v wi, .v wi, .v wi, .v wi, .v wi, .v wi, .v wi, .v wi]⟩
def ti31 : TI := ⟨.slice 159, 1, 24, [.v wn]⟩
def ti32 : TI := ⟨.slice 51, 1, 24, [.v wn]⟩
def ti33 : TI := ⟨.struct #[fd "Site" 3 0 0, fd "Applied" 2 1 8, fd "Booted" 4 2 16, fd "Epoch" 26 3 24, fd "Clock" 2 28 224, fd "Vector" 24 29 232, fd "Last" 24 37 296, fd "Base" 27 45 360, fd "Log" 28 46 384, fd "Frontier" 2 47 408, fd "Starts" 24 48 416, fd "Kept" 29 56 480, fd "Known" 30 64 672, fd "Told" 24 128 1184, fd "Clocks" 24 136 1248, fd "Sure" 24 144 1312, fd "Rows" 31 152 1376, fd "Parts" 32 153 1400], 154, 1424, [.v wi, .v wi, .v (.bool false), .v wi, .v wi, .v wi, .v wi, .v wi, .v wi, .v wi, .v wi, .v wi, .v wi, .v wi, .v wi, .v wi, .v wi, .v wi, .v wi, .v wi, .v wi, .v wi, .v wi, .v wi, .v wi, .v wi, .v wi, .v wi, .v wi, .v wi, .v wi, .v wi, .v wi, .v wi, .v wi, .v wi, .v wi, .v wi, .v wi, .v wi, .v wi, .v wi, .v wi, .v wi, .v wi, .v wn, .v wn, .v wi, .v wi, .v wi, .v wi, .v wi, .v wi, .v wi, .v wi, .v wi, .v wn, .v wn, .v wn, .v wn, .v wn, .v wn, .v wn, .v wn, .v wi, .v wi, .v wi, .v wi, .v wi, .v wi, .v wi, .v wi, .v wi, .v wi, .v wi, .v wi, .v wi, .v wi, .v wi, .v wi, .v wi, .v wi, .v wi, .v wi, .v wi, .v wi, .v wi, .v wi, .v wi, .v wi, .v wi, .v wi, .v wi, .v wi, .v wi, .v wi, .v wi, .v wi, .v wi, .v wi, .v wi, .v wi, .v wi, .v wi, .v wi, .v wi, .v wi, .v wi, .v wi, .v wi, .v wi, .v wi, .v wi, .v wi, .v wi, .v wi, .v wi, .v wi, .v wi, .v wi, .v wi, .v wi, .v wi, .v wi, .v wi, .v wi, .v wi, .v wi, .v wi, .v wi, .v wi, .v wi, .v wi, .v wi, .v wi, .v wi, .v wi, .v wi, .v wi, .v wi, .v wi, .v wi, .v wi, .v wi, .v wi, .v wi, .v wi, .v wi, .v wi, .v wi, .v wi, .v wi, .v wn, .v wn]⟩
def ti34 : TI := ti33
def ti40 : TI := ⟨.struct #[fd "Time" 2 0 0, fd "Site" 3 1 8], 2, 16, [.v wi, .v wi]⟩
def ti41 : TI := ti40
def ti42 : TI := ⟨.struct #[fd "Stamp" 41 0 0, fd "Kind" 3 2 16, fd "Node" 2 3 24, fd "Parent" 2 4 32, fd "Name" 9 5 40, fd "Key" 9 6 56, fd "Value" 9 7 72], 8, 88, [.v wi, .v wi, .v wi, .v wi, .v wi, .v wz, .v wz, .v wz]⟩
def ti43 : TI := ti42
def ti44 : TI := ⟨.struct #[fd "Group" 3 0 0, fd "Replica" 3 1 8], 2, 16, [.v wi, .v wi]⟩
def ti45 : TI := ti44
def ti46 : TI := ⟨.struct #[fd "Round" 2 0 0, fd "Replica" 3 1 8], 2, 16, [.v wi, .v wi]⟩
def ti47 : TI := ti46
def ti48 : TI := ⟨.slice 101, 1, 24, [.v wn]⟩
def ti49 : TI := ⟨.slice 5, 1, 24, [.v wn]⟩
def ti50 : TI := ⟨.struct #[fd "Snap" 2 0 0, fd "Index" 3 1 8, fd "Many" 3 2 16, fd "Data" 49 3 24], 4, 48, [.v wi, .v wi, .v wi, .v wn]⟩
def ti51 : TI := ti50
def ti52 : TI := ⟨.struct #[fd "Kind" 3 0 0, fd "Session" 2 1 8, fd "Request" 2 2 16, fd "Op" 43 3 24, fd "Origin" 3 11 112, fd "Seq" 2 12 120, fd "Ops" 28 13 128, fd "Epoch" 26 14 152, fd "From" 3 39 352, fd "Vector" 24 40 360, fd "Clock" 2 48 424, fd "Part" 51 49 432, fd "Site" 3 53 480, fd "Sponsor" 3 54 488, fd "Length" 2 55 496], 56, 504, [.v wi, .v wi, .v wi, .v wi, .v wi, .v wi, .v wi, .v wi, .v wz, .v wz, .v wz, .v wi, .v wi, .v wn, .v wi, .v wi, .v wi, .v wi, .v wi, .v wi, .v wi, .v wi, .v wi, .v wi, .v wi, .v wi, .v wi, .v wi, .v wi, .v wi, .v wi, .v wi, .v wi, .v wi, .v wi, .v wi, .v wi, .v wi, .v wi, .v wi, .v wi, .v wi, .v wi, .v wi, .v wi, .v wi, .v wi, .v wi, .v wi, .v wi, .v wi, .v wi, .v wn, .v wi, .v wi, .v wi]⟩
def ti53 : TI := ti52
def ti54 : TI := ⟨.struct #[fd "Kind" 3 0 0, fd "From" 45 1 8, fd "To" 45 3 24, fd "Ballot" 47 5 40, fd "Slot" 2 7 56, fd "List" 48 8 64, fd "Entry" 53 9 88, fd "Number" 2 65 592, fd "Vector" 24 66 600, fd "Clock" 2 74 664, fd "Origin" 3 75 672, fd "Ops" 28 76 680, fd "Epoch" 26 77 704, fd "Part" 51 102 904], 106, 952, [.v wi, .v wi, .v wi, .v wi, .v wi, .v wi, .v wi, .v wi, .v wn, .v wi, .v wi, .v wi, .v wi, .v wi, .v wi, .v wi, .v wi, .v wz, .v wz, .v wz, .v wi, .v wi, .v wn, .v wi, .v wi, .v wi, .v wi, .v wi, .v wi, .v wi, .v wi, .v wi, .v wi, .v wi, .v wi, .v wi, .v wi, .v wi, .v wi, .v wi, .v wi, .v wi, .v wi, .v wi, .v wi, .v wi, .v wi, .v wi, .v wi, .v wi, .v wi, .v wi, .v wi, .v wi, .v wi, .v wi, .v wi, .v wi, .v wi, .v wi, .v wi, .v wn, .v wi, .v wi, .v wi, .v wi, .v wi, .v wi, .v wi, .v wi, .v wi, .v wi, .v wi, .v wi, .v wi, .v wi, .v wn, .v wi, .v wi, .v wi, .v wi, .v wi, .v wi, .v wi, .v wi, .v wi, .v wi, .v wi, .v wi, .v wi, .v wi, .v wi, .v wi, .v wi, .v wi, .v wi, .v wi, .v wi, .v wi, .v wi, .v wi, .v wi, .v wi, .v wi, .v wi, .v wn]⟩
def ti55 : TI := ti54
def ti56 : TI := ⟨.int .i64, 1, 8, [.v wi]⟩
def ti60 : TI := ⟨.slice 3, 1, 24, [.v wn]⟩
def ti65 : TI := ⟨.slice 55, 1, 24, [.v wn]⟩
def ti96 : TI := ⟨.slice 169, 1, 24, [.v wn]⟩
def ti97 : TI := ⟨.struct #[fd "Node" 2 0 0, fd "Parent" 2 1 8, fd "Name" 9 2 16, fd "Attrs" 96 3 32], 4, 56, [.v wi, .v wi, .v wz, .v wn]⟩
def ti98 : TI := ti97
def ti100 : TI := ⟨.struct #[fd "Slot" 2 0 0, fd "Ballot" 47 1 8, fd "Entry" 53 3 24], 59, 528, [.v wi, .v wi, .v wi, .v wi, .v wi, .v wi, .v wi, .v wi, .v wi, .v wi, .v wi, .v wz, .v wz, .v wz, .v wi, .v wi, .v wn, .v wi, .v wi, .v wi, .v wi, .v wi, .v wi, .v wi, .v wi, .v wi, .v wi, .v wi, .v wi, .v wi, .v wi, .v wi, .v wi, .v wi, .v wi, .v wi, .v wi, .v wi, .v wi, .v wi, .v wi, .v wi, .v wi, .v wi, .v wi, .v wi, .v wi, .v wi, .v wi, .v wi, .v wi, .v wi, .v wi, .v wi, .v wi, .v wn, .v wi, .v wi, .v wi]⟩
def ti101 : TI := ti100
def ti102 : TI := ⟨.slice 9, 1, 24, [.v wn]⟩
def ti107 : TI := ⟨.slice 45, 1, 24, [.v wn]⟩
def ti115 : TI := ⟨.slice 24, 1, 24, [.v wn]⟩
def ti116 : TI := ⟨.pointer 152, 1, 8, [.v (.pointer none)]⟩
def ti126 : TI := ⟨.slice 2, 1, 24, [.v wn]⟩
def ti138 : TI := ⟨.slice 4, 1, 24, [.v wn]⟩
def ti150 : TI := ⟨.slice 27, 1, 24, [.v wn]⟩
def ti151 : TI := ⟨.struct #[⟨ "nodes", 27, 0, false, "", "orchard/orchardref12", 0⟩, ⟨ "was", 150, 1, false, "", "orchard/orchardref12", 24⟩], 2, 48, [.v wn, .v wn]⟩
def ti152 : TI := ti151
def ti156 : TI := ⟨.struct #[fd "Err" 56 0 0, fd "Stamp" 41 1 8, fd "Node" 2 3 24], 4, 32, [.v wi, .v wi, .v wi, .v wi]⟩
def ti157 : TI := ti156
def ti158 : TI := ⟨.struct #[fd "Session" 2 0 0, fd "Request" 2 1 8, fd "Reply" 157 2 16], 6, 48, [.v wi, .v wi, .v wi, .v wi, .v wi, .v wi]⟩
def ti159 : TI := ti158
def ti168 : TI := ⟨.struct #[fd "Key" 9 0 0, fd "Value" 9 1 16], 2, 32, [.v wz, .v wz]⟩
def ti169 : TI := ti168
def ti175 : TI := ⟨.int .u64, 1, 8, [.v (.int .u64 0)]⟩
def ti176 : TI := ⟨.int .u32, 1, 4, [.v (.int .u32 0)]⟩
def tyT : Nat → Option TI
  | 2 => some ti2
  | 3 => some ti3
  | 4 => some ti4
  | 5 => some ti5
  | 9 => some ti9
  | 12 => some ti12
  | 21 => some ti21
  | 22 => some ti22
  | 23 => some ti23
  | 24 => some ti24
  | 25 => some ti25
  | 26 => some ti26
  | 27 => some ti27
  | 28 => some ti28
  | 29 => some ti29
  | 30 => some ti30
  | 31 => some ti31
  | 32 => some ti32
  | 33 => some ti33
  | 34 => some ti34
  | 40 => some ti40
  | 41 => some ti41
  | 42 => some ti42
  | 43 => some ti43
  | 44 => some ti44
  | 45 => some ti45
  | 46 => some ti46
  | 47 => some ti47
  | 48 => some ti48
  | 49 => some ti49
  | 50 => some ti50
  | 51 => some ti51
  | 52 => some ti52
  | 53 => some ti53
  | 54 => some ti54
  | 55 => some ti55
  | 56 => some ti56
  | 60 => some ti60
  | 65 => some ti65
  | 96 => some ti96
  | 97 => some ti97
  | 98 => some ti98
  | 100 => some ti100
  | 101 => some ti101
  | 102 => some ti102
  | 107 => some ti107
  | 115 => some ti115
  | 116 => some ti116
  | 126 => some ti126
  | 138 => some ti138
  | 150 => some ti150
  | 151 => some ti151
  | 152 => some ti152
  | 156 => some ti156
  | 157 => some ti157
  | 158 => some ti158
  | 159 => some ti159
  | 168 => some ti168
  | 169 => some ti169
  | 175 => some ti175
  | 176 => some ti176
  | _ => none
def eqT : Nat → Option (List Kd)
  | 22 => some [.i, .i, .i, .i, .i, .i, .i, .i]
  | 23 => some [.i, .i, .i, .i, .i, .i, .i, .i]
  | 24 => some [.i, .i, .i, .i, .i, .i, .i, .i]
  | 25 => some [.i, .i, .i, .i, .i, .i, .i, .i, .i, .i, .i, .i, .i, .i, .i, .i, .i, .i, .i, .i, .i, .i, .i, .i, .i]
  | 26 => some [.i, .i, .i, .i, .i, .i, .i, .i, .i, .i, .i, .i, .i, .i, .i, .i, .i, .i, .i, .i, .i, .i, .i, .i, .i]
  | 30 => some [.i, .i, .i, .i, .i, .i, .i, .i, .i, .i, .i, .i, .i, .i, .i, .i, .i, .i, .i, .i, .i, .i, .i, .i, .i, .i, .i, .i, .i, .i, .i, .i, .i, .i, .i, .i, .i, .i, .i, .i, .i, .i, .i, .i, .i, .i, .i, .i, .i, .i, .i, .i, .i, .i, .i, .i, .i, .i, .i, .i, .i, .i, .i, .i]
  | 40 => some [.i, .i]
  | 41 => some [.i, .i]
  | 42 => some [.i, .i, .i, .i, .i, .s, .s, .s]
  | 43 => some [.i, .i, .i, .i, .i, .s, .s, .s]
  | 44 => some [.i, .i]
  | 45 => some [.i, .i]
  | 46 => some [.i, .i]
  | 47 => some [.i, .i]
  | 156 => some [.i, .i, .i, .i]
  | 157 => some [.i, .i, .i, .i]
  | 158 => some [.i, .i, .i, .i, .i, .i]
  | 159 => some [.i, .i, .i, .i, .i, .i]
  | 168 => some [.s, .s]
  | 169 => some [.s, .s]
  | _ => none
noncomputable def E : Env := ⟨Try.prog, tyT, eqT, none⟩
theorem tok2 : TyOk E.P 2 ti2 := tyOkV (z := (.int .i64 0)) (by kernel_rfl) rfl (by kernel_rfl) (by kernel_rfl)
theorem tok3 : TyOk E.P 3 ti3 := tyOkV (z := (.int .i64 0)) (by kernel_rfl) rfl (by kernel_rfl) (by kernel_rfl)
theorem tok4 : TyOk E.P 4 ti4 := tyOkV (z := (.bool false)) (by kernel_rfl) rfl (by kernel_rfl) (by kernel_rfl)
theorem tok5 : TyOk E.P 5 ti5 := tyOkV (z := (.int .u8 0)) (by kernel_rfl) rfl (by kernel_rfl) (by kernel_rfl)
theorem tok9 : TyOk E.P 9 ti9 := tyOkV (z := (.string ⟨#[]⟩)) (by kernel_rfl) rfl (by kernel_rfl) (by kernel_rfl)
theorem tok12 : TyOk E.P 12 ti12 := tyOkV (z := (.int .u64 0)) (by kernel_rfl) rfl (by kernel_rfl) (by kernel_rfl)
theorem tok21 : TyOk E.P 21 ti21 := tyOkV (z := (.int .i32 0)) (by kernel_rfl) rfl (by kernel_rfl) (by kernel_rfl)
theorem tok22 : TyOk E.P 22 ti22 := tyOkV (z := (.agg #[wi, wi, wi, wi, wi, wi, wi, wi])) (by kernel_rfl) rfl (by kernel_rfl) (by kernel_rfl)
theorem tok23 : TyOk E.P 23 ti23 := tyOkV (z := (.agg #[wi, wi, wi, wi, wi, wi, wi, wi])) (by kernel_rfl) rfl (by kernel_rfl) (by kernel_rfl)
theorem tok24 : TyOk E.P 24 ti24 := tyOkV (z := (.agg #[wi, wi, wi, wi, wi, wi, wi, wi])) (by kernel_rfl) rfl (by kernel_rfl) (by kernel_rfl)
theorem tok25 : TyOk E.P 25 ti25 := tyOkV (z := (.agg #[wi, wi, wi, wi, wi, wi, wi, wi, wi, wi, wi, wi, wi, wi, wi, wi, wi, wi, wi, wi, wi, wi, wi, wi, wi])) (by kernel_rfl) rfl (by kernel_rfl) (by kernel_rfl)
theorem tok26 : TyOk E.P 26 ti26 := tyOkV (z := (.agg #[wi, wi, wi, wi, wi, wi, wi, wi, wi, wi, wi, wi, wi, wi, wi, wi, wi, wi, wi, wi, wi, wi, wi, wi, wi])) (by kernel_rfl) rfl (by kernel_rfl) (by kernel_rfl)
theorem tok27 : TyOk E.P 27 ti27 := tyOkV (z := (.slice none 0 0)) (by kernel_rfl) rfl (by kernel_rfl) (by kernel_rfl)
theorem tok28 : TyOk E.P 28 ti28 := tyOkV (z := (.slice none 0 0)) (by kernel_rfl) rfl (by kernel_rfl) (by kernel_rfl)
theorem tok29 : TyOk E.P 29 ti29 := tyOkV (z := (.agg #[wn, wn, wn, wn, wn, wn, wn, wn])) (by kernel_rfl) rfl (by kernel_rfl) (by kernel_rfl)
theorem tok30 : TyOk E.P 30 ti30 := tyOkV (z := (.agg #[wi, wi, wi, wi, wi, wi, wi, wi, wi, wi, wi, wi, wi, wi, wi, wi, wi, wi, wi, wi, wi, wi, wi, wi, wi, wi, wi, wi, wi, wi, wi, wi, wi, wi, wi, wi, wi, wi, wi, wi, wi, wi, wi, wi, wi, wi, wi, wi, wi, wi, wi, wi, wi, wi, wi, wi, wi, wi, wi, wi, wi, wi, wi, wi])) (by kernel_rfl) rfl (by kernel_rfl) (by kernel_rfl)
theorem tok31 : TyOk E.P 31 ti31 := tyOkV (z := (.slice none 0 0)) (by kernel_rfl) rfl (by kernel_rfl) (by kernel_rfl)
theorem tok32 : TyOk E.P 32 ti32 := tyOkV (z := (.slice none 0 0)) (by kernel_rfl) rfl (by kernel_rfl) (by kernel_rfl)
theorem tok33 : TyOk E.P 33 ti33 := tyOkV (z := (.agg #[wi, wi, (.bool false), wi, wi, wi, wi, wi, wi, wi, wi, wi, wi, wi, wi, wi, wi, wi, wi, wi, wi, wi, wi, wi, wi, wi, wi, wi, wi, wi, wi, wi, wi, wi, wi, wi, wi, wi, wi, wi, wi, wi, wi, wi, wi, wn, wn, wi, wi, wi, wi, wi, wi, wi, wi, wi, wn, wn, wn, wn, wn, wn, wn, wn, wi, wi, wi, wi, wi, wi, wi, wi, wi, wi, wi, wi, wi, wi, wi, wi, wi, wi, wi, wi, wi, wi, wi, wi, wi, wi, wi, wi, wi, wi, wi, wi, wi, wi, wi, wi, wi, wi, wi, wi, wi, wi, wi, wi, wi, wi, wi, wi, wi, wi, wi, wi, wi, wi, wi, wi, wi, wi, wi, wi, wi, wi, wi, wi, wi, wi, wi, wi, wi, wi, wi, wi, wi, wi, wi, wi, wi, wi, wi, wi, wi, wi, wi, wi, wi, wi, wi, wi, wn, wn])) (by kernel_rfl) rfl (by kernel_rfl) (by kernel_rfl)
theorem tok34 : TyOk E.P 34 ti34 := tyOkV (z := (.agg #[wi, wi, (.bool false), wi, wi, wi, wi, wi, wi, wi, wi, wi, wi, wi, wi, wi, wi, wi, wi, wi, wi, wi, wi, wi, wi, wi, wi, wi, wi, wi, wi, wi, wi, wi, wi, wi, wi, wi, wi, wi, wi, wi, wi, wi, wi, wn, wn, wi, wi, wi, wi, wi, wi, wi, wi, wi, wn, wn, wn, wn, wn, wn, wn, wn, wi, wi, wi, wi, wi, wi, wi, wi, wi, wi, wi, wi, wi, wi, wi, wi, wi, wi, wi, wi, wi, wi, wi, wi, wi, wi, wi, wi, wi, wi, wi, wi, wi, wi, wi, wi, wi, wi, wi, wi, wi, wi, wi, wi, wi, wi, wi, wi, wi, wi, wi, wi, wi, wi, wi, wi, wi, wi, wi, wi, wi, wi, wi, wi, wi, wi, wi, wi, wi, wi, wi, wi, wi, wi, wi, wi, wi, wi, wi, wi, wi, wi, wi, wi, wi, wi, wi, wi, wn, wn])) (by kernel_rfl) rfl (by kernel_rfl) (by kernel_rfl)
theorem tok40 : TyOk E.P 40 ti40 := tyOkV (z := (.agg #[wi, wi])) (by kernel_rfl) rfl (by kernel_rfl) (by kernel_rfl)
theorem tok41 : TyOk E.P 41 ti41 := tyOkV (z := (.agg #[wi, wi])) (by kernel_rfl) rfl (by kernel_rfl) (by kernel_rfl)
theorem tok42 : TyOk E.P 42 ti42 := tyOkV (z := (.agg #[wi, wi, wi, wi, wi, wz, wz, wz])) (by kernel_rfl) rfl (by kernel_rfl) (by kernel_rfl)
theorem tok43 : TyOk E.P 43 ti43 := tyOkV (z := (.agg #[wi, wi, wi, wi, wi, wz, wz, wz])) (by kernel_rfl) rfl (by kernel_rfl) (by kernel_rfl)
theorem tok44 : TyOk E.P 44 ti44 := tyOkV (z := (.agg #[wi, wi])) (by kernel_rfl) rfl (by kernel_rfl) (by kernel_rfl)
theorem tok45 : TyOk E.P 45 ti45 := tyOkV (z := (.agg #[wi, wi])) (by kernel_rfl) rfl (by kernel_rfl) (by kernel_rfl)
theorem tok46 : TyOk E.P 46 ti46 := tyOkV (z := (.agg #[wi, wi])) (by kernel_rfl) rfl (by kernel_rfl) (by kernel_rfl)
theorem tok47 : TyOk E.P 47 ti47 := tyOkV (z := (.agg #[wi, wi])) (by kernel_rfl) rfl (by kernel_rfl) (by kernel_rfl)
theorem tok48 : TyOk E.P 48 ti48 := tyOkV (z := (.slice none 0 0)) (by kernel_rfl) rfl (by kernel_rfl) (by kernel_rfl)
theorem tok49 : TyOk E.P 49 ti49 := tyOkV (z := (.slice none 0 0)) (by kernel_rfl) rfl (by kernel_rfl) (by kernel_rfl)
theorem tok50 : TyOk E.P 50 ti50 := tyOkV (z := (.agg #[wi, wi, wi, wn])) (by kernel_rfl) rfl (by kernel_rfl) (by kernel_rfl)
theorem tok51 : TyOk E.P 51 ti51 := tyOkV (z := (.agg #[wi, wi, wi, wn])) (by kernel_rfl) rfl (by kernel_rfl) (by kernel_rfl)
theorem tok52 : TyOk E.P 52 ti52 := tyOkV (z := (.agg #[wi, wi, wi, wi, wi, wi, wi, wi, wz, wz, wz, wi, wi, wn, wi, wi, wi, wi, wi, wi, wi, wi, wi, wi, wi, wi, wi, wi, wi, wi, wi, wi, wi, wi, wi, wi, wi, wi, wi, wi, wi, wi, wi, wi, wi, wi, wi, wi, wi, wi, wi, wi, wn, wi, wi, wi])) (by kernel_rfl) rfl (by kernel_rfl) (by kernel_rfl)
theorem tok53 : TyOk E.P 53 ti53 := tyOkV (z := (.agg #[wi, wi, wi, wi, wi, wi, wi, wi, wz, wz, wz, wi, wi, wn, wi, wi, wi, wi, wi, wi, wi, wi, wi, wi, wi, wi, wi, wi, wi, wi, wi, wi, wi, wi, wi, wi, wi, wi, wi, wi, wi, wi, wi, wi, wi, wi, wi, wi, wi, wi, wi, wi, wn, wi, wi, wi])) (by kernel_rfl) rfl (by kernel_rfl) (by kernel_rfl)
theorem tok54 : TyOk E.P 54 ti54 := tyOkV (z := (.agg #[wi, wi, wi, wi, wi, wi, wi, wi, wn, wi, wi, wi, wi, wi, wi, wi, wi, wz, wz, wz, wi, wi, wn, wi, wi, wi, wi, wi, wi, wi, wi, wi, wi, wi, wi, wi, wi, wi, wi, wi, wi, wi, wi, wi, wi, wi, wi, wi, wi, wi, wi, wi, wi, wi, wi, wi, wi, wi, wi, wi, wi, wn, wi, wi, wi, wi, wi, wi, wi, wi, wi, wi, wi, wi, wi, wi, wn, wi, wi, wi, wi, wi, wi, wi, wi, wi, wi, wi, wi, wi, wi, wi, wi, wi, wi, wi, wi, wi, wi, wi, wi, wi, wi, wi, wi, wn])) (by kernel_rfl) rfl (by kernel_rfl) (by kernel_rfl)
theorem tok55 : TyOk E.P 55 ti55 := tyOkV (z := (.agg #[wi, wi, wi, wi, wi, wi, wi, wi, wn, wi, wi, wi, wi, wi, wi, wi, wi, wz, wz, wz, wi, wi, wn, wi, wi, wi, wi, wi, wi, wi, wi, wi, wi, wi, wi, wi, wi, wi, wi, wi, wi, wi, wi, wi, wi, wi, wi, wi, wi, wi, wi, wi, wi, wi, wi, wi, wi, wi, wi, wi, wi, wn, wi, wi, wi, wi, wi, wi, wi, wi, wi, wi, wi, wi, wi, wi, wn, wi, wi, wi, wi, wi, wi, wi, wi, wi, wi, wi, wi, wi, wi, wi, wi, wi, wi, wi, wi, wi, wi, wi, wi, wi, wi, wi, wi, wn])) (by kernel_rfl) rfl (by kernel_rfl) (by kernel_rfl)
theorem tok56 : TyOk E.P 56 ti56 := tyOkV (z := (.int .i64 0)) (by kernel_rfl) rfl (by kernel_rfl) (by kernel_rfl)
theorem tok60 : TyOk E.P 60 ti60 := tyOkV (z := (.slice none 0 0)) (by kernel_rfl) rfl (by kernel_rfl) (by kernel_rfl)
theorem tok65 : TyOk E.P 65 ti65 := tyOkV (z := (.slice none 0 0)) (by kernel_rfl) rfl (by kernel_rfl) (by kernel_rfl)
theorem tok96 : TyOk E.P 96 ti96 := tyOkV (z := (.slice none 0 0)) (by kernel_rfl) rfl (by kernel_rfl) (by kernel_rfl)
theorem tok97 : TyOk E.P 97 ti97 := tyOkV (z := (.agg #[wi, wi, wz, wn])) (by kernel_rfl) rfl (by kernel_rfl) (by kernel_rfl)
theorem tok98 : TyOk E.P 98 ti98 := tyOkV (z := (.agg #[wi, wi, wz, wn])) (by kernel_rfl) rfl (by kernel_rfl) (by kernel_rfl)
theorem tok100 : TyOk E.P 100 ti100 := tyOkV (z := (.agg #[wi, wi, wi, wi, wi, wi, wi, wi, wi, wi, wi, wz, wz, wz, wi, wi, wn, wi, wi, wi, wi, wi, wi, wi, wi, wi, wi, wi, wi, wi, wi, wi, wi, wi, wi, wi, wi, wi, wi, wi, wi, wi, wi, wi, wi, wi, wi, wi, wi, wi, wi, wi, wi, wi, wi, wn, wi, wi, wi])) (by kernel_rfl) rfl (by kernel_rfl) (by kernel_rfl)
theorem tok101 : TyOk E.P 101 ti101 := tyOkV (z := (.agg #[wi, wi, wi, wi, wi, wi, wi, wi, wi, wi, wi, wz, wz, wz, wi, wi, wn, wi, wi, wi, wi, wi, wi, wi, wi, wi, wi, wi, wi, wi, wi, wi, wi, wi, wi, wi, wi, wi, wi, wi, wi, wi, wi, wi, wi, wi, wi, wi, wi, wi, wi, wi, wi, wi, wi, wn, wi, wi, wi])) (by kernel_rfl) rfl (by kernel_rfl) (by kernel_rfl)
theorem tok102 : TyOk E.P 102 ti102 := tyOkV (z := (.slice none 0 0)) (by kernel_rfl) rfl (by kernel_rfl) (by kernel_rfl)
theorem tok107 : TyOk E.P 107 ti107 := tyOkV (z := (.slice none 0 0)) (by kernel_rfl) rfl (by kernel_rfl) (by kernel_rfl)
theorem tok115 : TyOk E.P 115 ti115 := tyOkV (z := (.slice none 0 0)) (by kernel_rfl) rfl (by kernel_rfl) (by kernel_rfl)
theorem tok116 : TyOk E.P 116 ti116 := tyOkV (z := (.pointer none)) (by kernel_rfl) rfl (by kernel_rfl) (by kernel_rfl)
theorem tok126 : TyOk E.P 126 ti126 := tyOkV (z := (.slice none 0 0)) (by kernel_rfl) rfl (by kernel_rfl) (by kernel_rfl)
theorem tok138 : TyOk E.P 138 ti138 := tyOkV (z := (.slice none 0 0)) (by kernel_rfl) rfl (by kernel_rfl) (by kernel_rfl)
theorem tok150 : TyOk E.P 150 ti150 := tyOkV (z := (.slice none 0 0)) (by kernel_rfl) rfl (by kernel_rfl) (by kernel_rfl)
theorem tok151 : TyOk E.P 151 ti151 := tyOkV (z := (.agg #[wn, wn])) (by kernel_rfl) rfl (by kernel_rfl) (by kernel_rfl)
theorem tok152 : TyOk E.P 152 ti152 := tyOkV (z := (.agg #[wn, wn])) (by kernel_rfl) rfl (by kernel_rfl) (by kernel_rfl)
theorem tok156 : TyOk E.P 156 ti156 := tyOkV (z := (.agg #[wi, wi, wi, wi])) (by kernel_rfl) rfl (by kernel_rfl) (by kernel_rfl)
theorem tok157 : TyOk E.P 157 ti157 := tyOkV (z := (.agg #[wi, wi, wi, wi])) (by kernel_rfl) rfl (by kernel_rfl) (by kernel_rfl)
theorem tok158 : TyOk E.P 158 ti158 := tyOkV (z := (.agg #[wi, wi, wi, wi, wi, wi])) (by kernel_rfl) rfl (by kernel_rfl) (by kernel_rfl)
theorem tok159 : TyOk E.P 159 ti159 := tyOkV (z := (.agg #[wi, wi, wi, wi, wi, wi])) (by kernel_rfl) rfl (by kernel_rfl) (by kernel_rfl)
theorem tok168 : TyOk E.P 168 ti168 := tyOkV (z := (.agg #[wz, wz])) (by kernel_rfl) rfl (by kernel_rfl) (by kernel_rfl)
theorem tok169 : TyOk E.P 169 ti169 := tyOkV (z := (.agg #[wz, wz])) (by kernel_rfl) rfl (by kernel_rfl) (by kernel_rfl)
theorem tok175 : TyOk E.P 175 ti175 := tyOkV (z := (.int .u64 0)) (by kernel_rfl) rfl (by kernel_rfl) (by kernel_rfl)
theorem tok176 : TyOk E.P 176 ti176 := tyOkV (z := (.int .u32 0)) (by kernel_rfl) rfl (by kernel_rfl) (by kernel_rfl)
theorem eOk : E.Ok := by
  intro t i h
  have h' : tyT t = some i := h
  unfold tyT at h'
  split at h' <;> first
    | (cases h'; first | exact tok2 | exact tok3 | exact tok4 | exact tok5 | exact tok9 | exact tok12 | exact tok21 | exact tok22 | exact tok23 | exact tok24 | exact tok25 | exact tok26 | exact tok27 | exact tok28 | exact tok29 | exact tok30 | exact tok31 | exact tok32 | exact tok33 | exact tok34 | exact tok40 | exact tok41 | exact tok42 | exact tok43 | exact tok44 | exact tok45 | exact tok46 | exact tok47 | exact tok48 | exact tok49 | exact tok50 | exact tok51 | exact tok52 | exact tok53 | exact tok54 | exact tok55 | exact tok56 | exact tok60 | exact tok65 | exact tok96 | exact tok97 | exact tok98 | exact tok100 | exact tok101 | exact tok102 | exact tok107 | exact tok115 | exact tok116 | exact tok126 | exact tok138 | exact tok150 | exact tok151 | exact tok152 | exact tok156 | exact tok157 | exact tok158 | exact tok159 | exact tok168 | exact tok169 | exact tok175 | exact tok176)
    | cases h'
theorem eEq : E.EqOk := by
  intro t ks h
  have h' : eqT t = some ks := h
  unfold eqT at h'
  split at h' <;> first
    | (cases h'; exact ⟨by kernel_rfl, by kernel_rfl, by kernel_rfl⟩)
    | cases h'
theorem eGood : Go.Ev.Good E := ⟨eOk, eEq, by kernel_rfl⟩
structure GEpoch where
  Number : Int
  States : Vector (Int) 8
  Seals : Vector (Int) 8
  Sponsor : Vector (Int) 8
instance : Inhabited GEpoch := ⟨⟨default, default, default, default⟩⟩
structure GAttr where
  Key : List UInt8
  Value : List UInt8
instance : Inhabited GAttr := ⟨⟨default, default⟩⟩
structure GTreeNode where
  Node : Int
  Parent : Int
  Name : List UInt8
  Attrs : List (GAttr)
instance : Inhabited GTreeNode := ⟨⟨default, default, default, default⟩⟩
structure GStamp where
  Time : Int
  Site : Int
instance : Inhabited GStamp := ⟨⟨default, default⟩⟩
structure GOp where
  Stamp : GStamp
  Kind : Int
  Node : Int
  Parent : Int
  Name : List UInt8
  Key : List UInt8
  Value : List UInt8
instance : Inhabited GOp := ⟨⟨default, default, default, default, default, default, default⟩⟩
structure GReply where
  Err : Int
  Stamp : GStamp
  Node : Int
instance : Inhabited GReply := ⟨⟨default, default, default⟩⟩
structure GRow where
  Session : Int
  Request : Int
  Reply : GReply
instance : Inhabited GRow := ⟨⟨default, default, default⟩⟩
structure GPart where
  Snap : Int
  Index : Int
  Many : Int
  Data : List (Int)
instance : Inhabited GPart := ⟨⟨default, default, default, default⟩⟩
structure GSnap where
  Site : Int
  Applied : Int
  Booted : Bool
  Epoch : GEpoch
  Clock : Int
  Vector_ : Vector (Int) 8
  Last : Vector (Int) 8
  Base : List (GTreeNode)
  Log : List (GOp)
  Frontier : Int
  Starts : Vector (Int) 8
  Kept : Vector (List (GOp)) 8
  Known : Vector (Vector (Int) 8) 8
  Told : Vector (Int) 8
  Clocks : Vector (Int) 8
  Sure : Vector (Int) 8
  Rows : List (GRow)
  Parts : List (GPart)
instance : Inhabited GSnap := ⟨⟨default, default, default, default, default, default, default, default, default, default, default, default, default, default, default, default, default, default⟩⟩
structure GAddr where
  Group : Int
  Replica : Int
instance : Inhabited GAddr := ⟨⟨default, default⟩⟩
structure GBallot where
  Round : Int
  Replica : Int
instance : Inhabited GBallot := ⟨⟨default, default⟩⟩
structure GEntry where
  Kind : Int
  Session : Int
  Request : Int
  Op : GOp
  Origin : Int
  Seq : Int
  Ops : List (GOp)
  Epoch : GEpoch
  From : Int
  Vector_ : Vector (Int) 8
  Clock : Int
  Part : GPart
  Site : Int
  Sponsor : Int
  Length : Int
instance : Inhabited GEntry := ⟨⟨default, default, default, default, default, default, default, default, default, default, default, default, default, default, default⟩⟩
structure GSlotted where
  Slot : Int
  Ballot : GBallot
  Entry : GEntry
instance : Inhabited GSlotted := ⟨⟨default, default, default⟩⟩
structure GMsg where
  Kind : Int
  From : GAddr
  To : GAddr
  Ballot : GBallot
  Slot : Int
  List_ : List (GSlotted)
  Entry : GEntry
  Number : Int
  Vector_ : Vector (Int) 8
  Clock : Int
  Origin : Int
  Ops : List (GOp)
  Epoch : GEpoch
  Part : GPart
instance : Inhabited GMsg := ⟨⟨default, default, default, default, default, default, default, default, default, default, default, default, default, default⟩⟩
structure Gorchardref12_Tree where
  nodes : List (GTreeNode)
  was : List (List (GTreeNode))
instance : Inhabited Gorchardref12_Tree := ⟨⟨default, default⟩⟩
@[reducible] def τ : Nat → Type
  | 2 => Int
  | 3 => Int
  | 4 => Bool
  | 5 => Int
  | 9 => List UInt8
  | 12 => Int
  | 21 => Int
  | 22 => Vector (Int) 8
  | 23 => Vector (Int) 8
  | 24 => Vector (Int) 8
  | 25 => GEpoch
  | 26 => GEpoch
  | 27 => List (GTreeNode)
  | 28 => List (GOp)
  | 29 => Vector (List (GOp)) 8
  | 30 => Vector (Vector (Int) 8) 8
  | 31 => List (GRow)
  | 32 => List (GPart)
  | 33 => GSnap
  | 34 => GSnap
  | 40 => GStamp
  | 41 => GStamp
  | 42 => GOp
  | 43 => GOp
  | 44 => GAddr
  | 45 => GAddr
  | 46 => GBallot
  | 47 => GBallot
  | 48 => List (GSlotted)
  | 49 => List (Int)
  | 50 => GPart
  | 51 => GPart
  | 52 => GEntry
  | 53 => GEntry
  | 54 => GMsg
  | 55 => GMsg
  | 56 => Int
  | 60 => List (Int)
  | 65 => List (GMsg)
  | 96 => List (GAttr)
  | 97 => GTreeNode
  | 98 => GTreeNode
  | 100 => GSlotted
  | 101 => GSlotted
  | 102 => List (List UInt8)
  | 107 => List (GAddr)
  | 115 => List (Vector (Int) 8)
  | 126 => List (Int)
  | 138 => List (Bool)
  | 150 => List (List (GTreeNode))
  | 151 => Gorchardref12_Tree
  | 152 => Gorchardref12_Tree
  | 156 => GReply
  | 157 => GReply
  | 158 => GRow
  | 159 => GRow
  | 168 => GAttr
  | 169 => GAttr
  | 175 => Int
  | 176 => Int
  | _ => Unit
def cel2 (x : Int) : List AV := [.v (.int .i64 x)]
def enc2 (x : Int) : TV τ := .int .i64 x
def dec2 (x : TV τ) : Option (Int) := dInt .i64 x
def beq2 (x y : Int) : Bool := (x == y)
def cel3 (x : Int) : List AV := [.v (.int .i64 x)]
def enc3 (x : Int) : TV τ := .int .i64 x
def dec3 (x : TV τ) : Option (Int) := dInt .i64 x
def beq3 (x y : Int) : Bool := (x == y)
def cel4 (x : Bool) : List AV := [.v (.bool x)]
def enc4 (x : Bool) : TV τ := .bool x
def dec4 (x : TV τ) : Option (Bool) := dBool x
def beq4 (x y : Bool) : Bool := (x == y)
def cel5 (x : Int) : List AV := [.v (.int .u8 x)]
def enc5 (x : Int) : TV τ := .int .u8 x
def dec5 (x : TV τ) : Option (Int) := dInt .u8 x
def beq5 (x y : Int) : Bool := (x == y)
def cel9 (x : List UInt8) : List AV := [.v (.string ⟨⟨x⟩⟩)]
def enc9 (x : List UInt8) : TV τ := .str x
def dec9 (x : TV τ) : Option (List UInt8) := dStr x
def beq9 (x y : List UInt8) : Bool := (x == y)
def cel12 (x : Int) : List AV := [.v (.int .u64 x)]
def enc12 (x : Int) : TV τ := .int .u64 x
def dec12 (x : TV τ) : Option (Int) := dInt .u64 x
def beq12 (x y : Int) : Bool := (x == y)
def cel21 (x : Int) : List AV := [.v (.int .i32 x)]
def enc21 (x : Int) : TV τ := .int .i32 x
def dec21 (x : TV τ) : Option (Int) := dInt .i32 x
def beq21 (x y : Int) : Bool := (x == y)
def cel22 (x : Vector (Int) 8) : List AV := x.toList.flatMap cel3
def enc22 (x : Vector (Int) 8) : TV τ := .arr 3 8 x
def dec22 (x : TV τ) : Option (Vector (Int) 8) := dArr 3 8 x
def beq22 (x y : Vector (Int) 8) : Bool := vbeq beq3 x y
def cel23 (x : Vector (Int) 8) : List AV := x.toList.flatMap cel2
def enc23 (x : Vector (Int) 8) : TV τ := .arr 2 8 x
def dec23 (x : TV τ) : Option (Vector (Int) 8) := dArr 2 8 x
def beq23 (x y : Vector (Int) 8) : Bool := vbeq beq2 x y
def cel24 (x : Vector (Int) 8) : List AV := x.toList.flatMap cel2
def enc24 (x : Vector (Int) 8) : TV τ := .arr 2 8 x
def dec24 (x : TV τ) : Option (Vector (Int) 8) := dArr 2 8 x
def beq24 (x y : Vector (Int) 8) : Bool := vbeq beq2 x y
def cel25 (x : GEpoch) : List AV := (cel2 x.Number ++ (cel22 x.States ++ (cel24 x.Seals ++ (cel22 x.Sponsor ++ []))))
def enc25 (x : GEpoch) : TV τ := .agg [enc2 x.Number, enc22 x.States, enc24 x.Seals, enc22 x.Sponsor]
def dec25 (x : TV τ) : Option (GEpoch) := (match x with | .agg [x0, x1, x2, x3] => (match dec2 x0 with | some a0 => (match dec22 x1 with | some a1 => (match dec24 x2 with | some a2 => (match dec22 x3 with | some a3 => some ⟨a0, a1, a2, a3⟩ | none => none) | none => none) | none => none) | none => none) | _ => none)
def beq25 (x y : GEpoch) : Bool := (beq2 x.Number y.Number && (beq22 x.States y.States && (beq24 x.Seals y.Seals && (beq22 x.Sponsor y.Sponsor && true))))
def cel26 (x : GEpoch) : List AV := cel25 x
def enc26 (x : GEpoch) : TV τ := enc25 x
def dec26 (x : TV τ) : Option (GEpoch) := dec25 x
def beq26 (x y : GEpoch) : Bool := beq25 x y
def cel169 (x : GAttr) : List AV := (cel9 x.Key ++ (cel9 x.Value ++ []))
def enc169 (x : GAttr) : TV τ := .agg [enc9 x.Key, enc9 x.Value]
def dec169 (x : TV τ) : Option (GAttr) := (match x with | .agg [x0, x1] => (match dec9 x0 with | some a0 => (match dec9 x1 with | some a1 => some ⟨a0, a1⟩ | none => none) | none => none) | _ => none)
def beq169 (x y : GAttr) : Bool := (beq9 x.Key y.Key && (beq9 x.Value y.Value && true))
def cel96 (x : List (GAttr)) : List AV := [.asl 2 (x.map cel169)]
def enc96 (x : List (GAttr)) : TV τ := .sl 169 x .any
def dec96 (x : TV τ) : Option (List (GAttr)) := dSl 169 x
def cel98 (x : GTreeNode) : List AV := (cel2 x.Node ++ (cel2 x.Parent ++ (cel9 x.Name ++ (cel96 x.Attrs ++ []))))
def enc98 (x : GTreeNode) : TV τ := .agg [enc2 x.Node, enc2 x.Parent, enc9 x.Name, enc96 x.Attrs]
def dec98 (x : TV τ) : Option (GTreeNode) := (match x with | .agg [x0, x1, x2, x3] => (match dec2 x0 with | some a0 => (match dec2 x1 with | some a1 => (match dec9 x2 with | some a2 => (match dec96 x3 with | some a3 => some ⟨a0, a1, a2, a3⟩ | none => none) | none => none) | none => none) | none => none) | _ => none)
def cel27 (x : List (GTreeNode)) : List AV := [.asl 4 (x.map cel98)]
def enc27 (x : List (GTreeNode)) : TV τ := .sl 98 x .any
def dec27 (x : TV τ) : Option (List (GTreeNode)) := dSl 98 x
def cel41 (x : GStamp) : List AV := (cel2 x.Time ++ (cel3 x.Site ++ []))
def enc41 (x : GStamp) : TV τ := .agg [enc2 x.Time, enc3 x.Site]
def dec41 (x : TV τ) : Option (GStamp) := (match x with | .agg [x0, x1] => (match dec2 x0 with | some a0 => (match dec3 x1 with | some a1 => some ⟨a0, a1⟩ | none => none) | none => none) | _ => none)
def beq41 (x y : GStamp) : Bool := (beq2 x.Time y.Time && (beq3 x.Site y.Site && true))
def cel43 (x : GOp) : List AV := (cel41 x.Stamp ++ (cel3 x.Kind ++ (cel2 x.Node ++ (cel2 x.Parent ++ (cel9 x.Name ++ (cel9 x.Key ++ (cel9 x.Value ++ [])))))))
def enc43 (x : GOp) : TV τ := .agg [enc41 x.Stamp, enc3 x.Kind, enc2 x.Node, enc2 x.Parent, enc9 x.Name, enc9 x.Key, enc9 x.Value]
def dec43 (x : TV τ) : Option (GOp) := (match x with | .agg [x0, x1, x2, x3, x4, x5, x6] => (match dec41 x0 with | some a0 => (match dec3 x1 with | some a1 => (match dec2 x2 with | some a2 => (match dec2 x3 with | some a3 => (match dec9 x4 with | some a4 => (match dec9 x5 with | some a5 => (match dec9 x6 with | some a6 => some ⟨a0, a1, a2, a3, a4, a5, a6⟩ | none => none) | none => none) | none => none) | none => none) | none => none) | none => none) | none => none) | _ => none)
def beq43 (x y : GOp) : Bool := (beq41 x.Stamp y.Stamp && (beq3 x.Kind y.Kind && (beq2 x.Node y.Node && (beq2 x.Parent y.Parent && (beq9 x.Name y.Name && (beq9 x.Key y.Key && (beq9 x.Value y.Value && true)))))))
def cel28 (x : List (GOp)) : List AV := [.asl 8 (x.map cel43)]
def enc28 (x : List (GOp)) : TV τ := .sl 43 x .any
def dec28 (x : TV τ) : Option (List (GOp)) := dSl 43 x
def cel29 (x : Vector (List (GOp)) 8) : List AV := x.toList.flatMap cel28
def enc29 (x : Vector (List (GOp)) 8) : TV τ := .arr 28 8 x
def dec29 (x : TV τ) : Option (Vector (List (GOp)) 8) := dArr 28 8 x
def cel30 (x : Vector (Vector (Int) 8) 8) : List AV := x.toList.flatMap cel24
def enc30 (x : Vector (Vector (Int) 8) 8) : TV τ := .arr 24 8 x
def dec30 (x : TV τ) : Option (Vector (Vector (Int) 8) 8) := dArr 24 8 x
def beq30 (x y : Vector (Vector (Int) 8) 8) : Bool := vbeq beq24 x y
def cel56 (x : Int) : List AV := [.v (.int .i64 x)]
def enc56 (x : Int) : TV τ := .int .i64 x
def dec56 (x : TV τ) : Option (Int) := dInt .i64 x
def beq56 (x y : Int) : Bool := (x == y)
def cel157 (x : GReply) : List AV := (cel56 x.Err ++ (cel41 x.Stamp ++ (cel2 x.Node ++ [])))
def enc157 (x : GReply) : TV τ := .agg [enc56 x.Err, enc41 x.Stamp, enc2 x.Node]
def dec157 (x : TV τ) : Option (GReply) := (match x with | .agg [x0, x1, x2] => (match dec56 x0 with | some a0 => (match dec41 x1 with | some a1 => (match dec2 x2 with | some a2 => some ⟨a0, a1, a2⟩ | none => none) | none => none) | none => none) | _ => none)
def beq157 (x y : GReply) : Bool := (beq56 x.Err y.Err && (beq41 x.Stamp y.Stamp && (beq2 x.Node y.Node && true)))
def cel159 (x : GRow) : List AV := (cel2 x.Session ++ (cel2 x.Request ++ (cel157 x.Reply ++ [])))
def enc159 (x : GRow) : TV τ := .agg [enc2 x.Session, enc2 x.Request, enc157 x.Reply]
def dec159 (x : TV τ) : Option (GRow) := (match x with | .agg [x0, x1, x2] => (match dec2 x0 with | some a0 => (match dec2 x1 with | some a1 => (match dec157 x2 with | some a2 => some ⟨a0, a1, a2⟩ | none => none) | none => none) | none => none) | _ => none)
def beq159 (x y : GRow) : Bool := (beq2 x.Session y.Session && (beq2 x.Request y.Request && (beq157 x.Reply y.Reply && true)))
def cel31 (x : List (GRow)) : List AV := [.asl 6 (x.map cel159)]
def enc31 (x : List (GRow)) : TV τ := .sl 159 x .any
def dec31 (x : TV τ) : Option (List (GRow)) := dSl 159 x
def cel49 (x : List (Int)) : List AV := [.asl 1 (x.map cel5)]
def enc49 (x : List (Int)) : TV τ := .sl 5 x .any
def dec49 (x : TV τ) : Option (List (Int)) := dSl 5 x
def cel51 (x : GPart) : List AV := (cel2 x.Snap ++ (cel3 x.Index ++ (cel3 x.Many ++ (cel49 x.Data ++ []))))
def enc51 (x : GPart) : TV τ := .agg [enc2 x.Snap, enc3 x.Index, enc3 x.Many, enc49 x.Data]
def dec51 (x : TV τ) : Option (GPart) := (match x with | .agg [x0, x1, x2, x3] => (match dec2 x0 with | some a0 => (match dec3 x1 with | some a1 => (match dec3 x2 with | some a2 => (match dec49 x3 with | some a3 => some ⟨a0, a1, a2, a3⟩ | none => none) | none => none) | none => none) | none => none) | _ => none)
def cel32 (x : List (GPart)) : List AV := [.asl 4 (x.map cel51)]
def enc32 (x : List (GPart)) : TV τ := .sl 51 x .any
def dec32 (x : TV τ) : Option (List (GPart)) := dSl 51 x
def cel33 (x : GSnap) : List AV := (cel3 x.Site ++ (cel2 x.Applied ++ (cel4 x.Booted ++ (cel26 x.Epoch ++ (cel2 x.Clock ++ (cel24 x.Vector_ ++ (cel24 x.Last ++ (cel27 x.Base ++ (cel28 x.Log ++ (cel2 x.Frontier ++ (cel24 x.Starts ++ (cel29 x.Kept ++ (cel30 x.Known ++ (cel24 x.Told ++ (cel24 x.Clocks ++ (cel24 x.Sure ++ (cel31 x.Rows ++ (cel32 x.Parts ++ []))))))))))))))))))
def enc33 (x : GSnap) : TV τ := .agg [enc3 x.Site, enc2 x.Applied, enc4 x.Booted, enc26 x.Epoch, enc2 x.Clock, enc24 x.Vector_, enc24 x.Last, enc27 x.Base, enc28 x.Log, enc2 x.Frontier, enc24 x.Starts, enc29 x.Kept, enc30 x.Known, enc24 x.Told, enc24 x.Clocks, enc24 x.Sure, enc31 x.Rows, enc32 x.Parts]
def dec33 (x : TV τ) : Option (GSnap) := (match x with | .agg [x0, x1, x2, x3, x4, x5, x6, x7, x8, x9, x10, x11, x12, x13, x14, x15, x16, x17] => (match dec3 x0 with | some a0 => (match dec2 x1 with | some a1 => (match dec4 x2 with | some a2 => (match dec26 x3 with | some a3 => (match dec2 x4 with | some a4 => (match dec24 x5 with | some a5 => (match dec24 x6 with | some a6 => (match dec27 x7 with | some a7 => (match dec28 x8 with | some a8 => (match dec2 x9 with | some a9 => (match dec24 x10 with | some a10 => (match dec29 x11 with | some a11 => (match dec30 x12 with | some a12 => (match dec24 x13 with | some a13 => (match dec24 x14 with | some a14 => (match dec24 x15 with | some a15 => (match dec31 x16 with | some a16 => (match dec32 x17 with | some a17 => some ⟨a0, a1, a2, a3, a4, a5, a6, a7, a8, a9, a10, a11, a12, a13, a14, a15, a16, a17⟩ | none => none) | none => none) | none => none) | none => none) | none => none) | none => none) | none => none) | none => none) | none => none) | none => none) | none => none) | none => none) | none => none) | none => none) | none => none) | none => none) | none => none) | none => none) | _ => none)
def cel34 (x : GSnap) : List AV := cel33 x
def enc34 (x : GSnap) : TV τ := enc33 x
def dec34 (x : TV τ) : Option (GSnap) := dec33 x
def cel40 (x : GStamp) : List AV := cel41 x
def enc40 (x : GStamp) : TV τ := enc41 x
def dec40 (x : TV τ) : Option (GStamp) := dec41 x
def beq40 (x y : GStamp) : Bool := beq41 x y
def cel42 (x : GOp) : List AV := cel43 x
def enc42 (x : GOp) : TV τ := enc43 x
def dec42 (x : TV τ) : Option (GOp) := dec43 x
def beq42 (x y : GOp) : Bool := beq43 x y
def cel44 (x : GAddr) : List AV := (cel3 x.Group ++ (cel3 x.Replica ++ []))
def enc44 (x : GAddr) : TV τ := .agg [enc3 x.Group, enc3 x.Replica]
def dec44 (x : TV τ) : Option (GAddr) := (match x with | .agg [x0, x1] => (match dec3 x0 with | some a0 => (match dec3 x1 with | some a1 => some ⟨a0, a1⟩ | none => none) | none => none) | _ => none)
def beq44 (x y : GAddr) : Bool := (beq3 x.Group y.Group && (beq3 x.Replica y.Replica && true))
def cel45 (x : GAddr) : List AV := cel44 x
def enc45 (x : GAddr) : TV τ := enc44 x
def dec45 (x : TV τ) : Option (GAddr) := dec44 x
def beq45 (x y : GAddr) : Bool := beq44 x y
def cel46 (x : GBallot) : List AV := (cel2 x.Round ++ (cel3 x.Replica ++ []))
def enc46 (x : GBallot) : TV τ := .agg [enc2 x.Round, enc3 x.Replica]
def dec46 (x : TV τ) : Option (GBallot) := (match x with | .agg [x0, x1] => (match dec2 x0 with | some a0 => (match dec3 x1 with | some a1 => some ⟨a0, a1⟩ | none => none) | none => none) | _ => none)
def beq46 (x y : GBallot) : Bool := (beq2 x.Round y.Round && (beq3 x.Replica y.Replica && true))
def cel47 (x : GBallot) : List AV := cel46 x
def enc47 (x : GBallot) : TV τ := enc46 x
def dec47 (x : TV τ) : Option (GBallot) := dec46 x
def beq47 (x y : GBallot) : Bool := beq46 x y
def cel53 (x : GEntry) : List AV := (cel3 x.Kind ++ (cel2 x.Session ++ (cel2 x.Request ++ (cel43 x.Op ++ (cel3 x.Origin ++ (cel2 x.Seq ++ (cel28 x.Ops ++ (cel26 x.Epoch ++ (cel3 x.From ++ (cel24 x.Vector_ ++ (cel2 x.Clock ++ (cel51 x.Part ++ (cel3 x.Site ++ (cel3 x.Sponsor ++ (cel2 x.Length ++ [])))))))))))))))
def enc53 (x : GEntry) : TV τ := .agg [enc3 x.Kind, enc2 x.Session, enc2 x.Request, enc43 x.Op, enc3 x.Origin, enc2 x.Seq, enc28 x.Ops, enc26 x.Epoch, enc3 x.From, enc24 x.Vector_, enc2 x.Clock, enc51 x.Part, enc3 x.Site, enc3 x.Sponsor, enc2 x.Length]
def dec53 (x : TV τ) : Option (GEntry) := (match x with | .agg [x0, x1, x2, x3, x4, x5, x6, x7, x8, x9, x10, x11, x12, x13, x14] => (match dec3 x0 with | some a0 => (match dec2 x1 with | some a1 => (match dec2 x2 with | some a2 => (match dec43 x3 with | some a3 => (match dec3 x4 with | some a4 => (match dec2 x5 with | some a5 => (match dec28 x6 with | some a6 => (match dec26 x7 with | some a7 => (match dec3 x8 with | some a8 => (match dec24 x9 with | some a9 => (match dec2 x10 with | some a10 => (match dec51 x11 with | some a11 => (match dec3 x12 with | some a12 => (match dec3 x13 with | some a13 => (match dec2 x14 with | some a14 => some ⟨a0, a1, a2, a3, a4, a5, a6, a7, a8, a9, a10, a11, a12, a13, a14⟩ | none => none) | none => none) | none => none) | none => none) | none => none) | none => none) | none => none) | none => none) | none => none) | none => none) | none => none) | none => none) | none => none) | none => none) | none => none) | _ => none)
def cel101 (x : GSlotted) : List AV := (cel2 x.Slot ++ (cel47 x.Ballot ++ (cel53 x.Entry ++ [])))
def enc101 (x : GSlotted) : TV τ := .agg [enc2 x.Slot, enc47 x.Ballot, enc53 x.Entry]
def dec101 (x : TV τ) : Option (GSlotted) := (match x with | .agg [x0, x1, x2] => (match dec2 x0 with | some a0 => (match dec47 x1 with | some a1 => (match dec53 x2 with | some a2 => some ⟨a0, a1, a2⟩ | none => none) | none => none) | none => none) | _ => none)
def cel48 (x : List (GSlotted)) : List AV := [.asl 59 (x.map cel101)]
def enc48 (x : List (GSlotted)) : TV τ := .sl 101 x .any
def dec48 (x : TV τ) : Option (List (GSlotted)) := dSl 101 x
def cel50 (x : GPart) : List AV := cel51 x
def enc50 (x : GPart) : TV τ := enc51 x
def dec50 (x : TV τ) : Option (GPart) := dec51 x
def cel52 (x : GEntry) : List AV := cel53 x
def enc52 (x : GEntry) : TV τ := enc53 x
def dec52 (x : TV τ) : Option (GEntry) := dec53 x
def cel54 (x : GMsg) : List AV := (cel3 x.Kind ++ (cel45 x.From ++ (cel45 x.To ++ (cel47 x.Ballot ++ (cel2 x.Slot ++ (cel48 x.List_ ++ (cel53 x.Entry ++ (cel2 x.Number ++ (cel24 x.Vector_ ++ (cel2 x.Clock ++ (cel3 x.Origin ++ (cel28 x.Ops ++ (cel26 x.Epoch ++ (cel51 x.Part ++ []))))))))))))))
def enc54 (x : GMsg) : TV τ := .agg [enc3 x.Kind, enc45 x.From, enc45 x.To, enc47 x.Ballot, enc2 x.Slot, enc48 x.List_, enc53 x.Entry, enc2 x.Number, enc24 x.Vector_, enc2 x.Clock, enc3 x.Origin, enc28 x.Ops, enc26 x.Epoch, enc51 x.Part]
def dec54 (x : TV τ) : Option (GMsg) := (match x with | .agg [x0, x1, x2, x3, x4, x5, x6, x7, x8, x9, x10, x11, x12, x13] => (match dec3 x0 with | some a0 => (match dec45 x1 with | some a1 => (match dec45 x2 with | some a2 => (match dec47 x3 with | some a3 => (match dec2 x4 with | some a4 => (match dec48 x5 with | some a5 => (match dec53 x6 with | some a6 => (match dec2 x7 with | some a7 => (match dec24 x8 with | some a8 => (match dec2 x9 with | some a9 => (match dec3 x10 with | some a10 => (match dec28 x11 with | some a11 => (match dec26 x12 with | some a12 => (match dec51 x13 with | some a13 => some ⟨a0, a1, a2, a3, a4, a5, a6, a7, a8, a9, a10, a11, a12, a13⟩ | none => none) | none => none) | none => none) | none => none) | none => none) | none => none) | none => none) | none => none) | none => none) | none => none) | none => none) | none => none) | none => none) | none => none) | _ => none)
def cel55 (x : GMsg) : List AV := cel54 x
def enc55 (x : GMsg) : TV τ := enc54 x
def dec55 (x : TV τ) : Option (GMsg) := dec54 x
def cel60 (x : List (Int)) : List AV := [.asl 1 (x.map cel3)]
def enc60 (x : List (Int)) : TV τ := .sl 3 x .any
def dec60 (x : TV τ) : Option (List (Int)) := dSl 3 x
def cel65 (x : List (GMsg)) : List AV := [.asl 106 (x.map cel55)]
def enc65 (x : List (GMsg)) : TV τ := .sl 55 x .any
def dec65 (x : TV τ) : Option (List (GMsg)) := dSl 55 x
def cel97 (x : GTreeNode) : List AV := cel98 x
def enc97 (x : GTreeNode) : TV τ := enc98 x
def dec97 (x : TV τ) : Option (GTreeNode) := dec98 x
def cel100 (x : GSlotted) : List AV := cel101 x
def enc100 (x : GSlotted) : TV τ := enc101 x
def dec100 (x : TV τ) : Option (GSlotted) := dec101 x
def cel102 (x : List (List UInt8)) : List AV := [.asl 1 (x.map cel9)]
def enc102 (x : List (List UInt8)) : TV τ := .sl 9 x .any
def dec102 (x : TV τ) : Option (List (List UInt8)) := dSl 9 x
def cel107 (x : List (GAddr)) : List AV := [.asl 2 (x.map cel45)]
def enc107 (x : List (GAddr)) : TV τ := .sl 45 x .any
def dec107 (x : TV τ) : Option (List (GAddr)) := dSl 45 x
def cel115 (x : List (Vector (Int) 8)) : List AV := [.asl 8 (x.map cel24)]
def enc115 (x : List (Vector (Int) 8)) : TV τ := .sl 24 x .any
def dec115 (x : TV τ) : Option (List (Vector (Int) 8)) := dSl 24 x
def cel126 (x : List (Int)) : List AV := [.asl 1 (x.map cel2)]
def enc126 (x : List (Int)) : TV τ := .sl 2 x .any
def dec126 (x : TV τ) : Option (List (Int)) := dSl 2 x
def cel138 (x : List (Bool)) : List AV := [.asl 1 (x.map cel4)]
def enc138 (x : List (Bool)) : TV τ := .sl 4 x .any
def dec138 (x : TV τ) : Option (List (Bool)) := dSl 4 x
def cel150 (x : List (List (GTreeNode))) : List AV := [.asl 1 (x.map cel27)]
def enc150 (x : List (List (GTreeNode))) : TV τ := .sl 27 x .any
def dec150 (x : TV τ) : Option (List (List (GTreeNode))) := dSl 27 x
def cel151 (x : Gorchardref12_Tree) : List AV := (cel27 x.nodes ++ (cel150 x.was ++ []))
def enc151 (x : Gorchardref12_Tree) : TV τ := .agg [enc27 x.nodes, enc150 x.was]
def dec151 (x : TV τ) : Option (Gorchardref12_Tree) := (match x with | .agg [x0, x1] => (match dec27 x0 with | some a0 => (match dec150 x1 with | some a1 => some ⟨a0, a1⟩ | none => none) | none => none) | _ => none)
def cel152 (x : Gorchardref12_Tree) : List AV := cel151 x
def enc152 (x : Gorchardref12_Tree) : TV τ := enc151 x
def dec152 (x : TV τ) : Option (Gorchardref12_Tree) := dec151 x
def cel156 (x : GReply) : List AV := cel157 x
def enc156 (x : GReply) : TV τ := enc157 x
def dec156 (x : TV τ) : Option (GReply) := dec157 x
def beq156 (x y : GReply) : Bool := beq157 x y
def cel158 (x : GRow) : List AV := cel159 x
def enc158 (x : GRow) : TV τ := enc159 x
def dec158 (x : TV τ) : Option (GRow) := dec159 x
def beq158 (x y : GRow) : Bool := beq159 x y
def cel168 (x : GAttr) : List AV := cel169 x
def enc168 (x : GAttr) : TV τ := enc169 x
def dec168 (x : TV τ) : Option (GAttr) := dec169 x
def beq168 (x y : GAttr) : Bool := beq169 x y
def cel175 (x : Int) : List AV := [.v (.int .u64 x)]
def enc175 (x : Int) : TV τ := .int .u64 x
def dec175 (x : TV τ) : Option (Int) := dInt .u64 x
def beq175 (x y : Int) : Bool := (x == y)
def cel176 (x : Int) : List AV := [.v (.int .u32 x)]
def enc176 (x : Int) : TV τ := .int .u32 x
def dec176 (x : TV τ) : Option (Int) := dInt .u32 x
def beq176 (x y : Int) : Bool := (x == y)
def celT : (t : Nat) → τ t → List AV
  | 2 => cel2
  | 3 => cel3
  | 4 => cel4
  | 5 => cel5
  | 9 => cel9
  | 12 => cel12
  | 21 => cel21
  | 22 => cel22
  | 23 => cel23
  | 24 => cel24
  | 25 => cel25
  | 26 => cel26
  | 27 => cel27
  | 28 => cel28
  | 29 => cel29
  | 30 => cel30
  | 31 => cel31
  | 32 => cel32
  | 33 => cel33
  | 34 => cel34
  | 40 => cel40
  | 41 => cel41
  | 42 => cel42
  | 43 => cel43
  | 44 => cel44
  | 45 => cel45
  | 46 => cel46
  | 47 => cel47
  | 48 => cel48
  | 49 => cel49
  | 50 => cel50
  | 51 => cel51
  | 52 => cel52
  | 53 => cel53
  | 54 => cel54
  | 55 => cel55
  | 56 => cel56
  | 60 => cel60
  | 65 => cel65
  | 96 => cel96
  | 97 => cel97
  | 98 => cel98
  | 100 => cel100
  | 101 => cel101
  | 102 => cel102
  | 107 => cel107
  | 115 => cel115
  | 126 => cel126
  | 138 => cel138
  | 150 => cel150
  | 151 => cel151
  | 152 => cel152
  | 156 => cel156
  | 157 => cel157
  | 158 => cel158
  | 159 => cel159
  | 168 => cel168
  | 169 => cel169
  | 175 => cel175
  | 176 => cel176
  | _ => fun _ => []
def encT : (t : Nat) → τ t → TV τ
  | 2 => enc2
  | 3 => enc3
  | 4 => enc4
  | 5 => enc5
  | 9 => enc9
  | 12 => enc12
  | 21 => enc21
  | 22 => enc22
  | 23 => enc23
  | 24 => enc24
  | 25 => enc25
  | 26 => enc26
  | 27 => enc27
  | 28 => enc28
  | 29 => enc29
  | 30 => enc30
  | 31 => enc31
  | 32 => enc32
  | 33 => enc33
  | 34 => enc34
  | 40 => enc40
  | 41 => enc41
  | 42 => enc42
  | 43 => enc43
  | 44 => enc44
  | 45 => enc45
  | 46 => enc46
  | 47 => enc47
  | 48 => enc48
  | 49 => enc49
  | 50 => enc50
  | 51 => enc51
  | 52 => enc52
  | 53 => enc53
  | 54 => enc54
  | 55 => enc55
  | 56 => enc56
  | 60 => enc60
  | 65 => enc65
  | 96 => enc96
  | 97 => enc97
  | 98 => enc98
  | 100 => enc100
  | 101 => enc101
  | 102 => enc102
  | 107 => enc107
  | 115 => enc115
  | 126 => enc126
  | 138 => enc138
  | 150 => enc150
  | 151 => enc151
  | 152 => enc152
  | 156 => enc156
  | 157 => enc157
  | 158 => enc158
  | 159 => enc159
  | 168 => enc168
  | 169 => enc169
  | 175 => enc175
  | 176 => enc176
  | _ => fun _ => .agg []
def decT : (t : Nat) → TV τ → Option (τ t)
  | 2 => dec2
  | 3 => dec3
  | 4 => dec4
  | 5 => dec5
  | 9 => dec9
  | 12 => dec12
  | 21 => dec21
  | 22 => dec22
  | 23 => dec23
  | 24 => dec24
  | 25 => dec25
  | 26 => dec26
  | 27 => dec27
  | 28 => dec28
  | 29 => dec29
  | 30 => dec30
  | 31 => dec31
  | 32 => dec32
  | 33 => dec33
  | 34 => dec34
  | 40 => dec40
  | 41 => dec41
  | 42 => dec42
  | 43 => dec43
  | 44 => dec44
  | 45 => dec45
  | 46 => dec46
  | 47 => dec47
  | 48 => dec48
  | 49 => dec49
  | 50 => dec50
  | 51 => dec51
  | 52 => dec52
  | 53 => dec53
  | 54 => dec54
  | 55 => dec55
  | 56 => dec56
  | 60 => dec60
  | 65 => dec65
  | 96 => dec96
  | 97 => dec97
  | 98 => dec98
  | 100 => dec100
  | 101 => dec101
  | 102 => dec102
  | 107 => dec107
  | 115 => dec115
  | 126 => dec126
  | 138 => dec138
  | 150 => dec150
  | 151 => dec151
  | 152 => dec152
  | 156 => dec156
  | 157 => dec157
  | 158 => dec158
  | 159 => dec159
  | 168 => dec168
  | 169 => dec169
  | 175 => dec175
  | 176 => dec176
  | _ => fun _ => none
theorem dfN (t : Nat) : Nonempty (τ t) := by unfold τ; split <;> exact ⟨default⟩
noncomputable def dfX (t : Nat) : τ t := Classical.choice (dfN t)
noncomputable def dfT : (t : Nat) → τ t
  | 2 => (default : Int)
  | 3 => (default : Int)
  | 4 => (default : Bool)
  | 5 => (default : Int)
  | 9 => (default : List UInt8)
  | 12 => (default : Int)
  | 21 => (default : Int)
  | 22 => (default : Vector (Int) 8)
  | 23 => (default : Vector (Int) 8)
  | 24 => (default : Vector (Int) 8)
  | 25 => (default : GEpoch)
  | 26 => (default : GEpoch)
  | 27 => (default : List (GTreeNode))
  | 28 => (default : List (GOp))
  | 29 => (default : Vector (List (GOp)) 8)
  | 30 => (default : Vector (Vector (Int) 8) 8)
  | 31 => (default : List (GRow))
  | 32 => (default : List (GPart))
  | 33 => (default : GSnap)
  | 34 => (default : GSnap)
  | 40 => (default : GStamp)
  | 41 => (default : GStamp)
  | 42 => (default : GOp)
  | 43 => (default : GOp)
  | 44 => (default : GAddr)
  | 45 => (default : GAddr)
  | 46 => (default : GBallot)
  | 47 => (default : GBallot)
  | 48 => (default : List (GSlotted))
  | 49 => (default : List (Int))
  | 50 => (default : GPart)
  | 51 => (default : GPart)
  | 52 => (default : GEntry)
  | 53 => (default : GEntry)
  | 54 => (default : GMsg)
  | 55 => (default : GMsg)
  | 56 => (default : Int)
  | 60 => (default : List (Int))
  | 65 => (default : List (GMsg))
  | 96 => (default : List (GAttr))
  | 97 => (default : GTreeNode)
  | 98 => (default : GTreeNode)
  | 100 => (default : GSlotted)
  | 101 => (default : GSlotted)
  | 102 => (default : List (List UInt8))
  | 107 => (default : List (GAddr))
  | 115 => (default : List (Vector (Int) 8))
  | 126 => (default : List (Int))
  | 138 => (default : List (Bool))
  | 150 => (default : List (List (GTreeNode)))
  | 151 => (default : Gorchardref12_Tree)
  | 152 => (default : Gorchardref12_Tree)
  | 156 => (default : GReply)
  | 157 => (default : GReply)
  | 158 => (default : GRow)
  | 159 => (default : GRow)
  | 168 => (default : GAttr)
  | 169 => (default : GAttr)
  | 175 => (default : Int)
  | 176 => (default : Int)
  | t => dfX t
def szT : Nat → Nat
  | 2 => 1
  | 3 => 1
  | 4 => 1
  | 5 => 1
  | 9 => 1
  | 12 => 1
  | 21 => 1
  | 22 => 8
  | 23 => 8
  | 24 => 8
  | 25 => 25
  | 26 => 25
  | 27 => 1
  | 28 => 1
  | 29 => 8
  | 30 => 64
  | 31 => 1
  | 32 => 1
  | 33 => 154
  | 34 => 154
  | 40 => 2
  | 41 => 2
  | 42 => 8
  | 43 => 8
  | 44 => 2
  | 45 => 2
  | 46 => 2
  | 47 => 2
  | 48 => 1
  | 49 => 1
  | 50 => 4
  | 51 => 4
  | 52 => 56
  | 53 => 56
  | 54 => 106
  | 55 => 106
  | 56 => 1
  | 60 => 1
  | 65 => 1
  | 96 => 1
  | 97 => 4
  | 98 => 4
  | 100 => 59
  | 101 => 59
  | 102 => 1
  | 107 => 1
  | 115 => 1
  | 126 => 1
  | 138 => 1
  | 150 => 1
  | 151 => 2
  | 152 => 2
  | 156 => 4
  | 157 => 4
  | 158 => 6
  | 159 => 6
  | 168 => 2
  | 169 => 2
  | 175 => 1
  | 176 => 1
  | _ => 0
def kdT : Nat → Option (List Kd)
  | 2 => some [.i]
  | 3 => some [.i]
  | 4 => some [.b]
  | 5 => some [.i]
  | 9 => some [.s]
  | 12 => some [.i]
  | 21 => some [.i]
  | 22 => some [.i, .i, .i, .i, .i, .i, .i, .i]
  | 23 => some [.i, .i, .i, .i, .i, .i, .i, .i]
  | 24 => some [.i, .i, .i, .i, .i, .i, .i, .i]
  | 25 => some [.i, .i, .i, .i, .i, .i, .i, .i, .i, .i, .i, .i, .i, .i, .i, .i, .i, .i, .i, .i, .i, .i, .i, .i, .i]
  | 26 => some [.i, .i, .i, .i, .i, .i, .i, .i, .i, .i, .i, .i, .i, .i, .i, .i, .i, .i, .i, .i, .i, .i, .i, .i, .i]
  | 30 => some [.i, .i, .i, .i, .i, .i, .i, .i, .i, .i, .i, .i, .i, .i, .i, .i, .i, .i, .i, .i, .i, .i, .i, .i, .i, .i, .i, .i, .i, .i, .i, .i, .i, .i, .i, .i, .i, .i, .i, .i, .i, .i, .i, .i, .i, .i, .i, .i, .i, .i, .i, .i, .i, .i, .i, .i, .i, .i, .i, .i, .i, .i, .i, .i]
  | 40 => some [.i, .i]
  | 41 => some [.i, .i]
  | 42 => some [.i, .i, .i, .i, .i, .s, .s, .s]
  | 43 => some [.i, .i, .i, .i, .i, .s, .s, .s]
  | 44 => some [.i, .i]
  | 45 => some [.i, .i]
  | 46 => some [.i, .i]
  | 47 => some [.i, .i]
  | 56 => some [.i]
  | 156 => some [.i, .i, .i, .i]
  | 157 => some [.i, .i, .i, .i]
  | 158 => some [.i, .i, .i, .i, .i, .i]
  | 159 => some [.i, .i, .i, .i, .i, .i]
  | 168 => some [.s, .s]
  | 169 => some [.s, .s]
  | 175 => some [.i]
  | 176 => some [.i]
  | _ => none
def beqT : (t : Nat) → τ t → τ t → Bool
  | 2 => beq2
  | 3 => beq3
  | 4 => beq4
  | 5 => beq5
  | 9 => beq9
  | 12 => beq12
  | 21 => beq21
  | 22 => beq22
  | 23 => beq23
  | 24 => beq24
  | 25 => beq25
  | 26 => beq26
  | 30 => beq30
  | 40 => beq40
  | 41 => beq41
  | 42 => beq42
  | 43 => beq43
  | 44 => beq44
  | 45 => beq45
  | 46 => beq46
  | 47 => beq47
  | 56 => beq56
  | 156 => beq156
  | 157 => beq157
  | 158 => beq158
  | 159 => beq159
  | 168 => beq168
  | 169 => beq169
  | 175 => beq175
  | 176 => beq176
  | _ => fun _ _ => false
def b2sT : (t : Nat) → List (τ t) → Option (List UInt8)
  | 5 => fun (l : List Int) => some (strI l)
  | _ => fun _ => none
def s2bT : (t : Nat) → List UInt8 → Option (List (τ t))
  | 5 => fun s => some (bytesI s)
  | _ => fun _ => none
noncomputable def siteT : Nat → Nat → Array Tmp × Code × Code := fun f k => bif Nat.beq f 6 then siteFn Try.f6 k else bif Nat.beq f 7 then siteFn Try.f7 k else bif Nat.beq f 9 then siteFn Try.f9 k else bif Nat.beq f 17 then siteFn Try.f17 k else (#[], .skip, .skip)
noncomputable def C : Cod τ := ⟨celT, encT, decT, dfT, szT, kdT, beqT, b2sT, s2bT, siteT⟩
theorem law2 : CodAt C 2 := ⟨fun x => rfl, fun x => rfl, fun x a h => by rw [dInt_x (show dInt .i64 x = some a from h)]; exact .refl _, fun x => rfl, fun x a h => by rw [dInt_x (show dInt .i64 x = some a from h)]; rfl, fun x a h => by rw [dInt_x (show dInt .i64 x = some a from h)]; rfl, fun a => rfl, fun a => noids_one (NoId.v _), fun ks h a b => by cases h; simp [eqCells, scal, C, celT, cel2, beqT, beq2], (fun l s h => nomatch h), (fun s l h => nomatch h)⟩
theorem law3 : CodAt C 3 := ⟨fun x => rfl, fun x => rfl, fun x a h => by rw [dInt_x (show dInt .i64 x = some a from h)]; exact .refl _, fun x => rfl, fun x a h => by rw [dInt_x (show dInt .i64 x = some a from h)]; rfl, fun x a h => by rw [dInt_x (show dInt .i64 x = some a from h)]; rfl, fun a => rfl, fun a => noids_one (NoId.v _), fun ks h a b => by cases h; simp [eqCells, scal, C, celT, cel3, beqT, beq3], (fun l s h => nomatch h), (fun s l h => nomatch h)⟩
theorem law4 : CodAt C 4 := ⟨fun x => rfl, fun x => rfl, fun x a h => by rw [dBool_x (show dBool x = some a from h)]; exact .refl _, fun x => rfl, fun x a h => by rw [dBool_x (show dBool x = some a from h)]; rfl, fun x a h => by rw [dBool_x (show dBool x = some a from h)]; rfl, fun a => rfl, fun a => noids_one (NoId.v _), fun ks h a b => by cases h; simp [eqCells, scal, C, celT, cel4, beqT, beq4], (fun l s h => nomatch h), (fun s l h => nomatch h)⟩
theorem law5 : CodAt C 5 := ⟨fun x => rfl, fun x => rfl, fun x a h => by rw [dInt_x (show dInt .u8 x = some a from h)]; exact .refl _, fun x => rfl, fun x a h => by rw [dInt_x (show dInt .u8 x = some a from h)]; rfl, fun x a h => by rw [dInt_x (show dInt .u8 x = some a from h)]; rfl, fun a => rfl, fun a => noids_one (NoId.v _), fun ks h a b => by cases h; simp [eqCells, scal, C, celT, cel5, beqT, beq5], fun l s h => ⟨rfl, (unbytes_int l).trans h⟩, fun s l h => ⟨rfl, by cases h; show (bytesI s).map cel5 = _; simp [bytesI, cel5, byteCell]⟩⟩
theorem law9 : CodAt C 9 := ⟨fun x => rfl, fun x => rfl, fun x a h => by rw [dStr_x (show dStr x = some a from h)]; exact .refl _, fun x => rfl, fun x a h => by rw [dStr_x (show dStr x = some a from h)]; rfl, fun x a h => by rw [dStr_x (show dStr x = some a from h)]; rfl, fun a => rfl, fun a => noids_one (NoId.v _), fun ks h a b => by cases h; simp [eqCells, scal, C, celT, cel9, beqT, beq9], (fun l s h => nomatch h), (fun s l h => nomatch h)⟩
theorem law12 : CodAt C 12 := ⟨fun x => rfl, fun x => rfl, fun x a h => by rw [dInt_x (show dInt .u64 x = some a from h)]; exact .refl _, fun x => rfl, fun x a h => by rw [dInt_x (show dInt .u64 x = some a from h)]; rfl, fun x a h => by rw [dInt_x (show dInt .u64 x = some a from h)]; rfl, fun a => rfl, fun a => noids_one (NoId.v _), fun ks h a b => by cases h; simp [eqCells, scal, C, celT, cel12, beqT, beq12], (fun l s h => nomatch h), (fun s l h => nomatch h)⟩
theorem law21 : CodAt C 21 := ⟨fun x => rfl, fun x => rfl, fun x a h => by rw [dInt_x (show dInt .i32 x = some a from h)]; exact .refl _, fun x => rfl, fun x a h => by rw [dInt_x (show dInt .i32 x = some a from h)]; rfl, fun x a h => by rw [dInt_x (show dInt .i32 x = some a from h)]; rfl, fun a => rfl, fun a => noids_one (NoId.v _), fun ks h a b => by cases h; simp [eqCells, scal, C, celT, cel21, beqT, beq21], (fun l s h => nomatch h), (fun s l h => nomatch h)⟩
theorem law22 : CodAt C 22 := ⟨fun x => rfl, fun x => length_flat law3 x, fun x a h => by rw [dArr_x (show dArr 3 8 x = some a from h)]; exact .refl _, fun x => rfl, fun x a h => by rw [dArr_x (show dArr 3 8 x = some a from h)]; rfl, fun x a h => by rw [dArr_x (show dArr 3 8 x = some a from h)]; rfl, fun a => one_flat law3 a.toList, fun a => noid_flat law3 a.toList, fun ks h a b => by have := eqCells_arr' law3 (show C.kd 3 = some _ from rfl) a.toList b.toList (by simp); simp only [Vector.length_toList] at this; cases h; exact this, (fun l s h => nomatch h), (fun s l h => nomatch h)⟩
theorem law23 : CodAt C 23 := ⟨fun x => rfl, fun x => length_flat law2 x, fun x a h => by rw [dArr_x (show dArr 2 8 x = some a from h)]; exact .refl _, fun x => rfl, fun x a h => by rw [dArr_x (show dArr 2 8 x = some a from h)]; rfl, fun x a h => by rw [dArr_x (show dArr 2 8 x = some a from h)]; rfl, fun a => one_flat law2 a.toList, fun a => noid_flat law2 a.toList, fun ks h a b => by have := eqCells_arr' law2 (show C.kd 2 = some _ from rfl) a.toList b.toList (by simp); simp only [Vector.length_toList] at this; cases h; exact this, (fun l s h => nomatch h), (fun s l h => nomatch h)⟩
theorem law24 : CodAt C 24 := ⟨fun x => rfl, fun x => length_flat law2 x, fun x a h => by rw [dArr_x (show dArr 2 8 x = some a from h)]; exact .refl _, fun x => rfl, fun x a h => by rw [dArr_x (show dArr 2 8 x = some a from h)]; rfl, fun x a h => by rw [dArr_x (show dArr 2 8 x = some a from h)]; rfl, fun a => one_flat law2 a.toList, fun a => noid_flat law2 a.toList, fun ks h a b => by have := eqCells_arr' law2 (show C.kd 2 = some _ from rfl) a.toList b.toList (by simp); simp only [Vector.length_toList] at this; cases h; exact this, (fun l s h => nomatch h), (fun s l h => nomatch h)⟩
theorem decx25 {x : TV τ} {a : GEpoch} (h : dec25 x = some a) : ∃ x0 x1 x2 x3, x = .agg [x0, x1, x2, x3] ∧ dec2 x0 = some a.Number ∧ dec22 x1 = some a.States ∧ dec24 x2 = some a.Seals ∧ dec22 x3 = some a.Sponsor := by
  unfold dec25 at h
  split at h
  · rename_i x0 x1 x2 x3
    split at h
    · rename_i a0 h0
      split at h
      · rename_i a1 h1
        split at h
        · rename_i a2 h2
          split at h
          · rename_i a3 h3
            cases h
            exact ⟨_, _, _, _, rfl, h0, h1, h2, h3⟩
          · cases h
        · cases h
      · cases h
    · cases h
  · cases h
theorem law25 : CodAt C 25 := ⟨fun x => app_eq (law2.cel _) (app_eq (law22.cel _) (app_eq (law24.cel _) (app_eq (law22.cel _) (rfl)))), fun x => len_app (law2.len _) (len_app (law22.len _) (len_app (law24.len _) (len_app (law22.len _) (rfl)))), fun x a h => by obtain ⟨x0, x1, x2, x3, rfl, h0, h1, h2, h3⟩ := decx25 h; exact CW.append (law2.dec _ _ h0) (CW.append (law22.dec _ _ h1) (CW.append (law24.dec _ _ h2) (CW.append (law22.dec _ _ h3) (CW.refl [])))), fun x => have q := ok_and (law2.ok x.Number) (ok_and (law22.ok x.States) (ok_and (law24.ok x.Seals) (ok_and (law22.ok x.Sponsor) (ok_t)))); q, fun x a h => by obtain ⟨x0, x1, x2, x3, rfl, h0, h1, h2, h3⟩ := decx25 h; exact ok_and (law2.decok _ _ h0) (ok_and (law22.decok _ _ h1) (ok_and (law24.decok _ _ h2) (ok_and (law22.decok _ _ h3) (rfl)))), fun x a h => by obtain ⟨x0, x1, x2, x3, rfl, h0, h1, h2, h3⟩ := decx25 h; rfl, fun x => all_app (law2.one _) (all_app (law22.one _) (all_app (law24.one _) (all_app (law22.one _) (rfl)))), fun x => noids_app (law2.noid _) (noids_app (law22.noid _) (noids_app (law24.noid _) (noids_app (law22.noid _) (trivial)))), fun ks h a b => by have := eqCells_append (law2.kd _ rfl a.Number b.Number) (eqCells_append (law22.kd _ rfl a.States b.States) (eqCells_append (law24.kd _ rfl a.Seals b.Seals) (eqCells_append (law22.kd _ rfl a.Sponsor b.Sponsor) ((show eqCells [] [] [] = some true from rfl))))); cases h; exact this, (fun l s h => nomatch h), (fun s l h => nomatch h)⟩
theorem law26 : CodAt C 26 := let q := law25; ⟨q.cel, q.len, q.dec, q.ok, q.decok, q.agg, q.one, q.noid, q.kd, q.b2s, q.s2b⟩
theorem decx169 {x : TV τ} {a : GAttr} (h : dec169 x = some a) : ∃ x0 x1, x = .agg [x0, x1] ∧ dec9 x0 = some a.Key ∧ dec9 x1 = some a.Value := by
  unfold dec169 at h
  split at h
  · rename_i x0 x1
    split at h
    · rename_i a0 h0
      split at h
      · rename_i a1 h1
        cases h
        exact ⟨_, _, rfl, h0, h1⟩
      · cases h
    · cases h
  · cases h
theorem law169 : CodAt C 169 := ⟨fun x => app_eq (law9.cel _) (app_eq (law9.cel _) (rfl)), fun x => len_app (law9.len _) (len_app (law9.len _) (rfl)), fun x a h => by obtain ⟨x0, x1, rfl, h0, h1⟩ := decx169 h; exact CW.append (law9.dec _ _ h0) (CW.append (law9.dec _ _ h1) (CW.refl [])), fun x => have q := ok_and (law9.ok x.Key) (ok_and (law9.ok x.Value) (ok_t)); q, fun x a h => by obtain ⟨x0, x1, rfl, h0, h1⟩ := decx169 h; exact ok_and (law9.decok _ _ h0) (ok_and (law9.decok _ _ h1) (rfl)), fun x a h => by obtain ⟨x0, x1, rfl, h0, h1⟩ := decx169 h; rfl, fun x => all_app (law9.one _) (all_app (law9.one _) (rfl)), fun x => noids_app (law9.noid _) (noids_app (law9.noid _) (trivial)), fun ks h a b => by have := eqCells_append (law9.kd _ rfl a.Key b.Key) (eqCells_append (law9.kd _ rfl a.Value b.Value) ((show eqCells [] [] [] = some true from rfl))); cases h; exact this, (fun l s h => nomatch h), (fun s l h => nomatch h)⟩
theorem law96 : CodAt C 96 := ⟨fun x => rfl, fun x => rfl, fun x a h => (dSl_cw (C := C) (show dSl 169 x = some a from h)).1, fun x => rfl, fun x a h => (dSl_cw (C := C) (show dSl 169 x = some a from h)).2.1, fun x a h => (dSl_cw (C := C) (show dSl 169 x = some a from h)).2.2, fun a => rfl, fun a => noids_one (NoId.asl fun cs hc => by obtain ⟨y, _, rfl⟩ := List.mem_map.1 hc; exact law169.noid y), (fun ks h => nomatch h), (fun l s h => nomatch h), (fun s l h => nomatch h)⟩
theorem decx98 {x : TV τ} {a : GTreeNode} (h : dec98 x = some a) : ∃ x0 x1 x2 x3, x = .agg [x0, x1, x2, x3] ∧ dec2 x0 = some a.Node ∧ dec2 x1 = some a.Parent ∧ dec9 x2 = some a.Name ∧ dec96 x3 = some a.Attrs := by
  unfold dec98 at h
  split at h
  · rename_i x0 x1 x2 x3
    split at h
    · rename_i a0 h0
      split at h
      · rename_i a1 h1
        split at h
        · rename_i a2 h2
          split at h
          · rename_i a3 h3
            cases h
            exact ⟨_, _, _, _, rfl, h0, h1, h2, h3⟩
          · cases h
        · cases h
      · cases h
    · cases h
  · cases h
theorem law98 : CodAt C 98 := ⟨fun x => app_eq (law2.cel _) (app_eq (law2.cel _) (app_eq (law9.cel _) (app_eq (law96.cel _) (rfl)))), fun x => len_app (law2.len _) (len_app (law2.len _) (len_app (law9.len _) (len_app (law96.len _) (rfl)))), fun x a h => by obtain ⟨x0, x1, x2, x3, rfl, h0, h1, h2, h3⟩ := decx98 h; exact CW.append (law2.dec _ _ h0) (CW.append (law2.dec _ _ h1) (CW.append (law9.dec _ _ h2) (CW.append (law96.dec _ _ h3) (CW.refl [])))), fun x => have q := ok_and (law2.ok x.Node) (ok_and (law2.ok x.Parent) (ok_and (law9.ok x.Name) (ok_and (law96.ok x.Attrs) (ok_t)))); q, fun x a h => by obtain ⟨x0, x1, x2, x3, rfl, h0, h1, h2, h3⟩ := decx98 h; exact ok_and (law2.decok _ _ h0) (ok_and (law2.decok _ _ h1) (ok_and (law9.decok _ _ h2) (ok_and (law96.decok _ _ h3) (rfl)))), fun x a h => by obtain ⟨x0, x1, x2, x3, rfl, h0, h1, h2, h3⟩ := decx98 h; rfl, fun x => all_app (law2.one _) (all_app (law2.one _) (all_app (law9.one _) (all_app (law96.one _) (rfl)))), fun x => noids_app (law2.noid _) (noids_app (law2.noid _) (noids_app (law9.noid _) (noids_app (law96.noid _) (trivial)))), (fun ks h => nomatch h), (fun l s h => nomatch h), (fun s l h => nomatch h)⟩
theorem law27 : CodAt C 27 := ⟨fun x => rfl, fun x => rfl, fun x a h => (dSl_cw (C := C) (show dSl 98 x = some a from h)).1, fun x => rfl, fun x a h => (dSl_cw (C := C) (show dSl 98 x = some a from h)).2.1, fun x a h => (dSl_cw (C := C) (show dSl 98 x = some a from h)).2.2, fun a => rfl, fun a => noids_one (NoId.asl fun cs hc => by obtain ⟨y, _, rfl⟩ := List.mem_map.1 hc; exact law98.noid y), (fun ks h => nomatch h), (fun l s h => nomatch h), (fun s l h => nomatch h)⟩
theorem decx41 {x : TV τ} {a : GStamp} (h : dec41 x = some a) : ∃ x0 x1, x = .agg [x0, x1] ∧ dec2 x0 = some a.Time ∧ dec3 x1 = some a.Site := by
  unfold dec41 at h
  split at h
  · rename_i x0 x1
    split at h
    · rename_i a0 h0
      split at h
      · rename_i a1 h1
        cases h
        exact ⟨_, _, rfl, h0, h1⟩
      · cases h
    · cases h
  · cases h
theorem law41 : CodAt C 41 := ⟨fun x => app_eq (law2.cel _) (app_eq (law3.cel _) (rfl)), fun x => len_app (law2.len _) (len_app (law3.len _) (rfl)), fun x a h => by obtain ⟨x0, x1, rfl, h0, h1⟩ := decx41 h; exact CW.append (law2.dec _ _ h0) (CW.append (law3.dec _ _ h1) (CW.refl [])), fun x => have q := ok_and (law2.ok x.Time) (ok_and (law3.ok x.Site) (ok_t)); q, fun x a h => by obtain ⟨x0, x1, rfl, h0, h1⟩ := decx41 h; exact ok_and (law2.decok _ _ h0) (ok_and (law3.decok _ _ h1) (rfl)), fun x a h => by obtain ⟨x0, x1, rfl, h0, h1⟩ := decx41 h; rfl, fun x => all_app (law2.one _) (all_app (law3.one _) (rfl)), fun x => noids_app (law2.noid _) (noids_app (law3.noid _) (trivial)), fun ks h a b => by have := eqCells_append (law2.kd _ rfl a.Time b.Time) (eqCells_append (law3.kd _ rfl a.Site b.Site) ((show eqCells [] [] [] = some true from rfl))); cases h; exact this, (fun l s h => nomatch h), (fun s l h => nomatch h)⟩
theorem decx43 {x : TV τ} {a : GOp} (h : dec43 x = some a) : ∃ x0 x1 x2 x3 x4 x5 x6, x = .agg [x0, x1, x2, x3, x4, x5, x6] ∧ dec41 x0 = some a.Stamp ∧ dec3 x1 = some a.Kind ∧ dec2 x2 = some a.Node ∧ dec2 x3 = some a.Parent ∧ dec9 x4 = some a.Name ∧ dec9 x5 = some a.Key ∧ dec9 x6 = some a.Value := by
  unfold dec43 at h
  split at h
  · rename_i x0 x1 x2 x3 x4 x5 x6
    split at h
    · rename_i a0 h0
      split at h
      · rename_i a1 h1
        split at h
        · rename_i a2 h2
          split at h
          · rename_i a3 h3
            split at h
            · rename_i a4 h4
              split at h
              · rename_i a5 h5
                split at h
                · rename_i a6 h6
                  cases h
                  exact ⟨_, _, _, _, _, _, _, rfl, h0, h1, h2, h3, h4, h5, h6⟩
                · cases h
              · cases h
            · cases h
          · cases h
        · cases h
      · cases h
    · cases h
  · cases h
theorem law43 : CodAt C 43 := ⟨fun x => app_eq (law41.cel _) (app_eq (law3.cel _) (app_eq (law2.cel _) (app_eq (law2.cel _) (app_eq (law9.cel _) (app_eq (law9.cel _) (app_eq (law9.cel _) (rfl))))))), fun x => len_app (law41.len _) (len_app (law3.len _) (len_app (law2.len _) (len_app (law2.len _) (len_app (law9.len _) (len_app (law9.len _) (len_app (law9.len _) (rfl))))))), fun x a h => by obtain ⟨x0, x1, x2, x3, x4, x5, x6, rfl, h0, h1, h2, h3, h4, h5, h6⟩ := decx43 h; exact CW.append (law41.dec _ _ h0) (CW.append (law3.dec _ _ h1) (CW.append (law2.dec _ _ h2) (CW.append (law2.dec _ _ h3) (CW.append (law9.dec _ _ h4) (CW.append (law9.dec _ _ h5) (CW.append (law9.dec _ _ h6) (CW.refl []))))))), fun x => have q := ok_and (law41.ok x.Stamp) (ok_and (law3.ok x.Kind) (ok_and (law2.ok x.Node) (ok_and (law2.ok x.Parent) (ok_and (law9.ok x.Name) (ok_and (law9.ok x.Key) (ok_and (law9.ok x.Value) (ok_t))))))); q, fun x a h => by obtain ⟨x0, x1, x2, x3, x4, x5, x6, rfl, h0, h1, h2, h3, h4, h5, h6⟩ := decx43 h; exact ok_and (law41.decok _ _ h0) (ok_and (law3.decok _ _ h1) (ok_and (law2.decok _ _ h2) (ok_and (law2.decok _ _ h3) (ok_and (law9.decok _ _ h4) (ok_and (law9.decok _ _ h5) (ok_and (law9.decok _ _ h6) (rfl))))))), fun x a h => by obtain ⟨x0, x1, x2, x3, x4, x5, x6, rfl, h0, h1, h2, h3, h4, h5, h6⟩ := decx43 h; rfl, fun x => all_app (law41.one _) (all_app (law3.one _) (all_app (law2.one _) (all_app (law2.one _) (all_app (law9.one _) (all_app (law9.one _) (all_app (law9.one _) (rfl))))))), fun x => noids_app (law41.noid _) (noids_app (law3.noid _) (noids_app (law2.noid _) (noids_app (law2.noid _) (noids_app (law9.noid _) (noids_app (law9.noid _) (noids_app (law9.noid _) (trivial))))))), fun ks h a b => by have := eqCells_append (law41.kd _ rfl a.Stamp b.Stamp) (eqCells_append (law3.kd _ rfl a.Kind b.Kind) (eqCells_append (law2.kd _ rfl a.Node b.Node) (eqCells_append (law2.kd _ rfl a.Parent b.Parent) (eqCells_append (law9.kd _ rfl a.Name b.Name) (eqCells_append (law9.kd _ rfl a.Key b.Key) (eqCells_append (law9.kd _ rfl a.Value b.Value) ((show eqCells [] [] [] = some true from rfl)))))))); cases h; exact this, (fun l s h => nomatch h), (fun s l h => nomatch h)⟩
theorem law28 : CodAt C 28 := ⟨fun x => rfl, fun x => rfl, fun x a h => (dSl_cw (C := C) (show dSl 43 x = some a from h)).1, fun x => rfl, fun x a h => (dSl_cw (C := C) (show dSl 43 x = some a from h)).2.1, fun x a h => (dSl_cw (C := C) (show dSl 43 x = some a from h)).2.2, fun a => rfl, fun a => noids_one (NoId.asl fun cs hc => by obtain ⟨y, _, rfl⟩ := List.mem_map.1 hc; exact law43.noid y), (fun ks h => nomatch h), (fun l s h => nomatch h), (fun s l h => nomatch h)⟩
theorem law29 : CodAt C 29 := ⟨fun x => rfl, fun x => length_flat law28 x, fun x a h => by rw [dArr_x (show dArr 28 8 x = some a from h)]; exact .refl _, fun x => rfl, fun x a h => by rw [dArr_x (show dArr 28 8 x = some a from h)]; rfl, fun x a h => by rw [dArr_x (show dArr 28 8 x = some a from h)]; rfl, fun a => one_flat law28 a.toList, fun a => noid_flat law28 a.toList, (fun ks h => nomatch h), (fun l s h => nomatch h), (fun s l h => nomatch h)⟩
theorem law30 : CodAt C 30 := ⟨fun x => rfl, fun x => length_flat law24 x, fun x a h => by rw [dArr_x (show dArr 24 8 x = some a from h)]; exact .refl _, fun x => rfl, fun x a h => by rw [dArr_x (show dArr 24 8 x = some a from h)]; rfl, fun x a h => by rw [dArr_x (show dArr 24 8 x = some a from h)]; rfl, fun a => one_flat law24 a.toList, fun a => noid_flat law24 a.toList, fun ks h a b => by have := eqCells_arr' law24 (show C.kd 24 = some _ from rfl) a.toList b.toList (by simp); simp only [Vector.length_toList] at this; cases h; exact this, (fun l s h => nomatch h), (fun s l h => nomatch h)⟩
theorem law56 : CodAt C 56 := ⟨fun x => rfl, fun x => rfl, fun x a h => by rw [dInt_x (show dInt .i64 x = some a from h)]; exact .refl _, fun x => rfl, fun x a h => by rw [dInt_x (show dInt .i64 x = some a from h)]; rfl, fun x a h => by rw [dInt_x (show dInt .i64 x = some a from h)]; rfl, fun a => rfl, fun a => noids_one (NoId.v _), fun ks h a b => by cases h; simp [eqCells, scal, C, celT, cel56, beqT, beq56], (fun l s h => nomatch h), (fun s l h => nomatch h)⟩
theorem decx157 {x : TV τ} {a : GReply} (h : dec157 x = some a) : ∃ x0 x1 x2, x = .agg [x0, x1, x2] ∧ dec56 x0 = some a.Err ∧ dec41 x1 = some a.Stamp ∧ dec2 x2 = some a.Node := by
  unfold dec157 at h
  split at h
  · rename_i x0 x1 x2
    split at h
    · rename_i a0 h0
      split at h
      · rename_i a1 h1
        split at h
        · rename_i a2 h2
          cases h
          exact ⟨_, _, _, rfl, h0, h1, h2⟩
        · cases h
      · cases h
    · cases h
  · cases h
theorem law157 : CodAt C 157 := ⟨fun x => app_eq (law56.cel _) (app_eq (law41.cel _) (app_eq (law2.cel _) (rfl))), fun x => len_app (law56.len _) (len_app (law41.len _) (len_app (law2.len _) (rfl))), fun x a h => by obtain ⟨x0, x1, x2, rfl, h0, h1, h2⟩ := decx157 h; exact CW.append (law56.dec _ _ h0) (CW.append (law41.dec _ _ h1) (CW.append (law2.dec _ _ h2) (CW.refl []))), fun x => have q := ok_and (law56.ok x.Err) (ok_and (law41.ok x.Stamp) (ok_and (law2.ok x.Node) (ok_t))); q, fun x a h => by obtain ⟨x0, x1, x2, rfl, h0, h1, h2⟩ := decx157 h; exact ok_and (law56.decok _ _ h0) (ok_and (law41.decok _ _ h1) (ok_and (law2.decok _ _ h2) (rfl))), fun x a h => by obtain ⟨x0, x1, x2, rfl, h0, h1, h2⟩ := decx157 h; rfl, fun x => all_app (law56.one _) (all_app (law41.one _) (all_app (law2.one _) (rfl))), fun x => noids_app (law56.noid _) (noids_app (law41.noid _) (noids_app (law2.noid _) (trivial))), fun ks h a b => by have := eqCells_append (law56.kd _ rfl a.Err b.Err) (eqCells_append (law41.kd _ rfl a.Stamp b.Stamp) (eqCells_append (law2.kd _ rfl a.Node b.Node) ((show eqCells [] [] [] = some true from rfl)))); cases h; exact this, (fun l s h => nomatch h), (fun s l h => nomatch h)⟩
theorem decx159 {x : TV τ} {a : GRow} (h : dec159 x = some a) : ∃ x0 x1 x2, x = .agg [x0, x1, x2] ∧ dec2 x0 = some a.Session ∧ dec2 x1 = some a.Request ∧ dec157 x2 = some a.Reply := by
  unfold dec159 at h
  split at h
  · rename_i x0 x1 x2
    split at h
    · rename_i a0 h0
      split at h
      · rename_i a1 h1
        split at h
        · rename_i a2 h2
          cases h
          exact ⟨_, _, _, rfl, h0, h1, h2⟩
        · cases h
      · cases h
    · cases h
  · cases h
theorem law159 : CodAt C 159 := ⟨fun x => app_eq (law2.cel _) (app_eq (law2.cel _) (app_eq (law157.cel _) (rfl))), fun x => len_app (law2.len _) (len_app (law2.len _) (len_app (law157.len _) (rfl))), fun x a h => by obtain ⟨x0, x1, x2, rfl, h0, h1, h2⟩ := decx159 h; exact CW.append (law2.dec _ _ h0) (CW.append (law2.dec _ _ h1) (CW.append (law157.dec _ _ h2) (CW.refl []))), fun x => have q := ok_and (law2.ok x.Session) (ok_and (law2.ok x.Request) (ok_and (law157.ok x.Reply) (ok_t))); q, fun x a h => by obtain ⟨x0, x1, x2, rfl, h0, h1, h2⟩ := decx159 h; exact ok_and (law2.decok _ _ h0) (ok_and (law2.decok _ _ h1) (ok_and (law157.decok _ _ h2) (rfl))), fun x a h => by obtain ⟨x0, x1, x2, rfl, h0, h1, h2⟩ := decx159 h; rfl, fun x => all_app (law2.one _) (all_app (law2.one _) (all_app (law157.one _) (rfl))), fun x => noids_app (law2.noid _) (noids_app (law2.noid _) (noids_app (law157.noid _) (trivial))), fun ks h a b => by have := eqCells_append (law2.kd _ rfl a.Session b.Session) (eqCells_append (law2.kd _ rfl a.Request b.Request) (eqCells_append (law157.kd _ rfl a.Reply b.Reply) ((show eqCells [] [] [] = some true from rfl)))); cases h; exact this, (fun l s h => nomatch h), (fun s l h => nomatch h)⟩
theorem law31 : CodAt C 31 := ⟨fun x => rfl, fun x => rfl, fun x a h => (dSl_cw (C := C) (show dSl 159 x = some a from h)).1, fun x => rfl, fun x a h => (dSl_cw (C := C) (show dSl 159 x = some a from h)).2.1, fun x a h => (dSl_cw (C := C) (show dSl 159 x = some a from h)).2.2, fun a => rfl, fun a => noids_one (NoId.asl fun cs hc => by obtain ⟨y, _, rfl⟩ := List.mem_map.1 hc; exact law159.noid y), (fun ks h => nomatch h), (fun l s h => nomatch h), (fun s l h => nomatch h)⟩
theorem law49 : CodAt C 49 := ⟨fun x => rfl, fun x => rfl, fun x a h => (dSl_cw (C := C) (show dSl 5 x = some a from h)).1, fun x => rfl, fun x a h => (dSl_cw (C := C) (show dSl 5 x = some a from h)).2.1, fun x a h => (dSl_cw (C := C) (show dSl 5 x = some a from h)).2.2, fun a => rfl, fun a => noids_one (NoId.asl fun cs hc => by obtain ⟨y, _, rfl⟩ := List.mem_map.1 hc; exact law5.noid y), (fun ks h => nomatch h), (fun l s h => nomatch h), (fun s l h => nomatch h)⟩
theorem decx51 {x : TV τ} {a : GPart} (h : dec51 x = some a) : ∃ x0 x1 x2 x3, x = .agg [x0, x1, x2, x3] ∧ dec2 x0 = some a.Snap ∧ dec3 x1 = some a.Index ∧ dec3 x2 = some a.Many ∧ dec49 x3 = some a.Data := by
  unfold dec51 at h
  split at h
  · rename_i x0 x1 x2 x3
    split at h
    · rename_i a0 h0
      split at h
      · rename_i a1 h1
        split at h
        · rename_i a2 h2
          split at h
          · rename_i a3 h3
            cases h
            exact ⟨_, _, _, _, rfl, h0, h1, h2, h3⟩
          · cases h
        · cases h
      · cases h
    · cases h
  · cases h
theorem law51 : CodAt C 51 := ⟨fun x => app_eq (law2.cel _) (app_eq (law3.cel _) (app_eq (law3.cel _) (app_eq (law49.cel _) (rfl)))), fun x => len_app (law2.len _) (len_app (law3.len _) (len_app (law3.len _) (len_app (law49.len _) (rfl)))), fun x a h => by obtain ⟨x0, x1, x2, x3, rfl, h0, h1, h2, h3⟩ := decx51 h; exact CW.append (law2.dec _ _ h0) (CW.append (law3.dec _ _ h1) (CW.append (law3.dec _ _ h2) (CW.append (law49.dec _ _ h3) (CW.refl [])))), fun x => have q := ok_and (law2.ok x.Snap) (ok_and (law3.ok x.Index) (ok_and (law3.ok x.Many) (ok_and (law49.ok x.Data) (ok_t)))); q, fun x a h => by obtain ⟨x0, x1, x2, x3, rfl, h0, h1, h2, h3⟩ := decx51 h; exact ok_and (law2.decok _ _ h0) (ok_and (law3.decok _ _ h1) (ok_and (law3.decok _ _ h2) (ok_and (law49.decok _ _ h3) (rfl)))), fun x a h => by obtain ⟨x0, x1, x2, x3, rfl, h0, h1, h2, h3⟩ := decx51 h; rfl, fun x => all_app (law2.one _) (all_app (law3.one _) (all_app (law3.one _) (all_app (law49.one _) (rfl)))), fun x => noids_app (law2.noid _) (noids_app (law3.noid _) (noids_app (law3.noid _) (noids_app (law49.noid _) (trivial)))), (fun ks h => nomatch h), (fun l s h => nomatch h), (fun s l h => nomatch h)⟩
theorem law32 : CodAt C 32 := ⟨fun x => rfl, fun x => rfl, fun x a h => (dSl_cw (C := C) (show dSl 51 x = some a from h)).1, fun x => rfl, fun x a h => (dSl_cw (C := C) (show dSl 51 x = some a from h)).2.1, fun x a h => (dSl_cw (C := C) (show dSl 51 x = some a from h)).2.2, fun a => rfl, fun a => noids_one (NoId.asl fun cs hc => by obtain ⟨y, _, rfl⟩ := List.mem_map.1 hc; exact law51.noid y), (fun ks h => nomatch h), (fun l s h => nomatch h), (fun s l h => nomatch h)⟩
theorem decx33 {x : TV τ} {a : GSnap} (h : dec33 x = some a) : ∃ x0 x1 x2 x3 x4 x5 x6 x7 x8 x9 x10 x11 x12 x13 x14 x15 x16 x17, x = .agg [x0, x1, x2, x3, x4, x5, x6, x7, x8, x9, x10, x11, x12, x13, x14, x15, x16, x17] ∧ dec3 x0 = some a.Site ∧ dec2 x1 = some a.Applied ∧ dec4 x2 = some a.Booted ∧ dec26 x3 = some a.Epoch ∧ dec2 x4 = some a.Clock ∧ dec24 x5 = some a.Vector_ ∧ dec24 x6 = some a.Last ∧ dec27 x7 = some a.Base ∧ dec28 x8 = some a.Log ∧ dec2 x9 = some a.Frontier ∧ dec24 x10 = some a.Starts ∧ dec29 x11 = some a.Kept ∧ dec30 x12 = some a.Known ∧ dec24 x13 = some a.Told ∧ dec24 x14 = some a.Clocks ∧ dec24 x15 = some a.Sure ∧ dec31 x16 = some a.Rows ∧ dec32 x17 = some a.Parts := by
  unfold dec33 at h
  split at h
  · rename_i x0 x1 x2 x3 x4 x5 x6 x7 x8 x9 x10 x11 x12 x13 x14 x15 x16 x17
    split at h
    · rename_i a0 h0
      split at h
      · rename_i a1 h1
        split at h
        · rename_i a2 h2
          split at h
          · rename_i a3 h3
            split at h
            · rename_i a4 h4
              split at h
              · rename_i a5 h5
                split at h
                · rename_i a6 h6
                  split at h
                  · rename_i a7 h7
                    split at h
                    · rename_i a8 h8
                      split at h
                      · rename_i a9 h9
                        split at h
                        · rename_i a10 h10
                          split at h
                          · rename_i a11 h11
                            split at h
                            · rename_i a12 h12
                              split at h
                              · rename_i a13 h13
                                split at h
                                · rename_i a14 h14
                                  split at h
                                  · rename_i a15 h15
                                    split at h
                                    · rename_i a16 h16
                                      split at h
                                      · rename_i a17 h17
                                        cases h
                                        exact ⟨_, _, _, _, _, _, _, _, _, _, _, _, _, _, _, _, _, _, rfl, h0, h1, h2, h3, h4, h5, h6, h7, h8, h9, h10, h11, h12, h13, h14, h15, h16, h17⟩
                                      · cases h
                                    · cases h
                                  · cases h
                                · cases h
                              · cases h
                            · cases h
                          · cases h
                        · cases h
                      · cases h
                    · cases h
                  · cases h
                · cases h
              · cases h
            · cases h
          · cases h
        · cases h
      · cases h
    · cases h
  · cases h
theorem law33 : CodAt C 33 := ⟨fun x => app_eq (law3.cel _) (app_eq (law2.cel _) (app_eq (law4.cel _) (app_eq (law26.cel _) (app_eq (law2.cel _) (app_eq (law24.cel _) (app_eq (law24.cel _) (app_eq (law27.cel _) (app_eq (law28.cel _) (app_eq (law2.cel _) (app_eq (law24.cel _) (app_eq (law29.cel _) (app_eq (law30.cel _) (app_eq (law24.cel _) (app_eq (law24.cel _) (app_eq (law24.cel _) (app_eq (law31.cel _) (app_eq (law32.cel _) (rfl)))))))))))))))))), fun x => len_app (law3.len _) (len_app (law2.len _) (len_app (law4.len _) (len_app (law26.len _) (len_app (law2.len _) (len_app (law24.len _) (len_app (law24.len _) (len_app (law27.len _) (len_app (law28.len _) (len_app (law2.len _) (len_app (law24.len _) (len_app (law29.len _) (len_app (law30.len _) (len_app (law24.len _) (len_app (law24.len _) (len_app (law24.len _) (len_app (law31.len _) (len_app (law32.len _) (rfl)))))))))))))))))), fun x a h => by obtain ⟨x0, x1, x2, x3, x4, x5, x6, x7, x8, x9, x10, x11, x12, x13, x14, x15, x16, x17, rfl, h0, h1, h2, h3, h4, h5, h6, h7, h8, h9, h10, h11, h12, h13, h14, h15, h16, h17⟩ := decx33 h; exact CW.append (law3.dec _ _ h0) (CW.append (law2.dec _ _ h1) (CW.append (law4.dec _ _ h2) (CW.append (law26.dec _ _ h3) (CW.append (law2.dec _ _ h4) (CW.append (law24.dec _ _ h5) (CW.append (law24.dec _ _ h6) (CW.append (law27.dec _ _ h7) (CW.append (law28.dec _ _ h8) (CW.append (law2.dec _ _ h9) (CW.append (law24.dec _ _ h10) (CW.append (law29.dec _ _ h11) (CW.append (law30.dec _ _ h12) (CW.append (law24.dec _ _ h13) (CW.append (law24.dec _ _ h14) (CW.append (law24.dec _ _ h15) (CW.append (law31.dec _ _ h16) (CW.append (law32.dec _ _ h17) (CW.refl [])))))))))))))))))), fun x => have q := ok_and (law3.ok x.Site) (ok_and (law2.ok x.Applied) (ok_and (law4.ok x.Booted) (ok_and (law26.ok x.Epoch) (ok_and (law2.ok x.Clock) (ok_and (law24.ok x.Vector_) (ok_and (law24.ok x.Last) (ok_and (law27.ok x.Base) (ok_and (law28.ok x.Log) (ok_and (law2.ok x.Frontier) (ok_and (law24.ok x.Starts) (ok_and (law29.ok x.Kept) (ok_and (law30.ok x.Known) (ok_and (law24.ok x.Told) (ok_and (law24.ok x.Clocks) (ok_and (law24.ok x.Sure) (ok_and (law31.ok x.Rows) (ok_and (law32.ok x.Parts) (ok_t)))))))))))))))))); q, fun x a h => by obtain ⟨x0, x1, x2, x3, x4, x5, x6, x7, x8, x9, x10, x11, x12, x13, x14, x15, x16, x17, rfl, h0, h1, h2, h3, h4, h5, h6, h7, h8, h9, h10, h11, h12, h13, h14, h15, h16, h17⟩ := decx33 h; exact ok_and (law3.decok _ _ h0) (ok_and (law2.decok _ _ h1) (ok_and (law4.decok _ _ h2) (ok_and (law26.decok _ _ h3) (ok_and (law2.decok _ _ h4) (ok_and (law24.decok _ _ h5) (ok_and (law24.decok _ _ h6) (ok_and (law27.decok _ _ h7) (ok_and (law28.decok _ _ h8) (ok_and (law2.decok _ _ h9) (ok_and (law24.decok _ _ h10) (ok_and (law29.decok _ _ h11) (ok_and (law30.decok _ _ h12) (ok_and (law24.decok _ _ h13) (ok_and (law24.decok _ _ h14) (ok_and (law24.decok _ _ h15) (ok_and (law31.decok _ _ h16) (ok_and (law32.decok _ _ h17) (rfl)))))))))))))))))), fun x a h => by obtain ⟨x0, x1, x2, x3, x4, x5, x6, x7, x8, x9, x10, x11, x12, x13, x14, x15, x16, x17, rfl, h0, h1, h2, h3, h4, h5, h6, h7, h8, h9, h10, h11, h12, h13, h14, h15, h16, h17⟩ := decx33 h; rfl, fun x => all_app (law3.one _) (all_app (law2.one _) (all_app (law4.one _) (all_app (law26.one _) (all_app (law2.one _) (all_app (law24.one _) (all_app (law24.one _) (all_app (law27.one _) (all_app (law28.one _) (all_app (law2.one _) (all_app (law24.one _) (all_app (law29.one _) (all_app (law30.one _) (all_app (law24.one _) (all_app (law24.one _) (all_app (law24.one _) (all_app (law31.one _) (all_app (law32.one _) (rfl)))))))))))))))))), fun x => noids_app (law3.noid _) (noids_app (law2.noid _) (noids_app (law4.noid _) (noids_app (law26.noid _) (noids_app (law2.noid _) (noids_app (law24.noid _) (noids_app (law24.noid _) (noids_app (law27.noid _) (noids_app (law28.noid _) (noids_app (law2.noid _) (noids_app (law24.noid _) (noids_app (law29.noid _) (noids_app (law30.noid _) (noids_app (law24.noid _) (noids_app (law24.noid _) (noids_app (law24.noid _) (noids_app (law31.noid _) (noids_app (law32.noid _) (trivial)))))))))))))))))), (fun ks h => nomatch h), (fun l s h => nomatch h), (fun s l h => nomatch h)⟩
theorem law34 : CodAt C 34 := let q := law33; ⟨q.cel, q.len, q.dec, q.ok, q.decok, q.agg, q.one, q.noid, q.kd, q.b2s, q.s2b⟩
theorem law40 : CodAt C 40 := let q := law41; ⟨q.cel, q.len, q.dec, q.ok, q.decok, q.agg, q.one, q.noid, q.kd, q.b2s, q.s2b⟩
theorem law42 : CodAt C 42 := let q := law43; ⟨q.cel, q.len, q.dec, q.ok, q.decok, q.agg, q.one, q.noid, q.kd, q.b2s, q.s2b⟩
theorem decx44 {x : TV τ} {a : GAddr} (h : dec44 x = some a) : ∃ x0 x1, x = .agg [x0, x1] ∧ dec3 x0 = some a.Group ∧ dec3 x1 = some a.Replica := by
  unfold dec44 at h
  split at h
  · rename_i x0 x1
    split at h
    · rename_i a0 h0
      split at h
      · rename_i a1 h1
        cases h
        exact ⟨_, _, rfl, h0, h1⟩
      · cases h
    · cases h
  · cases h
theorem law44 : CodAt C 44 := ⟨fun x => app_eq (law3.cel _) (app_eq (law3.cel _) (rfl)), fun x => len_app (law3.len _) (len_app (law3.len _) (rfl)), fun x a h => by obtain ⟨x0, x1, rfl, h0, h1⟩ := decx44 h; exact CW.append (law3.dec _ _ h0) (CW.append (law3.dec _ _ h1) (CW.refl [])), fun x => have q := ok_and (law3.ok x.Group) (ok_and (law3.ok x.Replica) (ok_t)); q, fun x a h => by obtain ⟨x0, x1, rfl, h0, h1⟩ := decx44 h; exact ok_and (law3.decok _ _ h0) (ok_and (law3.decok _ _ h1) (rfl)), fun x a h => by obtain ⟨x0, x1, rfl, h0, h1⟩ := decx44 h; rfl, fun x => all_app (law3.one _) (all_app (law3.one _) (rfl)), fun x => noids_app (law3.noid _) (noids_app (law3.noid _) (trivial)), fun ks h a b => by have := eqCells_append (law3.kd _ rfl a.Group b.Group) (eqCells_append (law3.kd _ rfl a.Replica b.Replica) ((show eqCells [] [] [] = some true from rfl))); cases h; exact this, (fun l s h => nomatch h), (fun s l h => nomatch h)⟩
theorem law45 : CodAt C 45 := let q := law44; ⟨q.cel, q.len, q.dec, q.ok, q.decok, q.agg, q.one, q.noid, q.kd, q.b2s, q.s2b⟩
theorem decx46 {x : TV τ} {a : GBallot} (h : dec46 x = some a) : ∃ x0 x1, x = .agg [x0, x1] ∧ dec2 x0 = some a.Round ∧ dec3 x1 = some a.Replica := by
  unfold dec46 at h
  split at h
  · rename_i x0 x1
    split at h
    · rename_i a0 h0
      split at h
      · rename_i a1 h1
        cases h
        exact ⟨_, _, rfl, h0, h1⟩
      · cases h
    · cases h
  · cases h
theorem law46 : CodAt C 46 := ⟨fun x => app_eq (law2.cel _) (app_eq (law3.cel _) (rfl)), fun x => len_app (law2.len _) (len_app (law3.len _) (rfl)), fun x a h => by obtain ⟨x0, x1, rfl, h0, h1⟩ := decx46 h; exact CW.append (law2.dec _ _ h0) (CW.append (law3.dec _ _ h1) (CW.refl [])), fun x => have q := ok_and (law2.ok x.Round) (ok_and (law3.ok x.Replica) (ok_t)); q, fun x a h => by obtain ⟨x0, x1, rfl, h0, h1⟩ := decx46 h; exact ok_and (law2.decok _ _ h0) (ok_and (law3.decok _ _ h1) (rfl)), fun x a h => by obtain ⟨x0, x1, rfl, h0, h1⟩ := decx46 h; rfl, fun x => all_app (law2.one _) (all_app (law3.one _) (rfl)), fun x => noids_app (law2.noid _) (noids_app (law3.noid _) (trivial)), fun ks h a b => by have := eqCells_append (law2.kd _ rfl a.Round b.Round) (eqCells_append (law3.kd _ rfl a.Replica b.Replica) ((show eqCells [] [] [] = some true from rfl))); cases h; exact this, (fun l s h => nomatch h), (fun s l h => nomatch h)⟩
theorem law47 : CodAt C 47 := let q := law46; ⟨q.cel, q.len, q.dec, q.ok, q.decok, q.agg, q.one, q.noid, q.kd, q.b2s, q.s2b⟩
theorem decx53 {x : TV τ} {a : GEntry} (h : dec53 x = some a) : ∃ x0 x1 x2 x3 x4 x5 x6 x7 x8 x9 x10 x11 x12 x13 x14, x = .agg [x0, x1, x2, x3, x4, x5, x6, x7, x8, x9, x10, x11, x12, x13, x14] ∧ dec3 x0 = some a.Kind ∧ dec2 x1 = some a.Session ∧ dec2 x2 = some a.Request ∧ dec43 x3 = some a.Op ∧ dec3 x4 = some a.Origin ∧ dec2 x5 = some a.Seq ∧ dec28 x6 = some a.Ops ∧ dec26 x7 = some a.Epoch ∧ dec3 x8 = some a.From ∧ dec24 x9 = some a.Vector_ ∧ dec2 x10 = some a.Clock ∧ dec51 x11 = some a.Part ∧ dec3 x12 = some a.Site ∧ dec3 x13 = some a.Sponsor ∧ dec2 x14 = some a.Length := by
  unfold dec53 at h
  split at h
  · rename_i x0 x1 x2 x3 x4 x5 x6 x7 x8 x9 x10 x11 x12 x13 x14
    split at h
    · rename_i a0 h0
      split at h
      · rename_i a1 h1
        split at h
        · rename_i a2 h2
          split at h
          · rename_i a3 h3
            split at h
            · rename_i a4 h4
              split at h
              · rename_i a5 h5
                split at h
                · rename_i a6 h6
                  split at h
                  · rename_i a7 h7
                    split at h
                    · rename_i a8 h8
                      split at h
                      · rename_i a9 h9
                        split at h
                        · rename_i a10 h10
                          split at h
                          · rename_i a11 h11
                            split at h
                            · rename_i a12 h12
                              split at h
                              · rename_i a13 h13
                                split at h
                                · rename_i a14 h14
                                  cases h
                                  exact ⟨_, _, _, _, _, _, _, _, _, _, _, _, _, _, _, rfl, h0, h1, h2, h3, h4, h5, h6, h7, h8, h9, h10, h11, h12, h13, h14⟩
                                · cases h
                              · cases h
                            · cases h
                          · cases h
                        · cases h
                      · cases h
                    · cases h
                  · cases h
                · cases h
              · cases h
            · cases h
          · cases h
        · cases h
      · cases h
    · cases h
  · cases h
theorem law53 : CodAt C 53 := ⟨fun x => app_eq (law3.cel _) (app_eq (law2.cel _) (app_eq (law2.cel _) (app_eq (law43.cel _) (app_eq (law3.cel _) (app_eq (law2.cel _) (app_eq (law28.cel _) (app_eq (law26.cel _) (app_eq (law3.cel _) (app_eq (law24.cel _) (app_eq (law2.cel _) (app_eq (law51.cel _) (app_eq (law3.cel _) (app_eq (law3.cel _) (app_eq (law2.cel _) (rfl))))))))))))))), fun x => len_app (law3.len _) (len_app (law2.len _) (len_app (law2.len _) (len_app (law43.len _) (len_app (law3.len _) (len_app (law2.len _) (len_app (law28.len _) (len_app (law26.len _) (len_app (law3.len _) (len_app (law24.len _) (len_app (law2.len _) (len_app (law51.len _) (len_app (law3.len _) (len_app (law3.len _) (len_app (law2.len _) (rfl))))))))))))))), fun x a h => by obtain ⟨x0, x1, x2, x3, x4, x5, x6, x7, x8, x9, x10, x11, x12, x13, x14, rfl, h0, h1, h2, h3, h4, h5, h6, h7, h8, h9, h10, h11, h12, h13, h14⟩ := decx53 h; exact CW.append (law3.dec _ _ h0) (CW.append (law2.dec _ _ h1) (CW.append (law2.dec _ _ h2) (CW.append (law43.dec _ _ h3) (CW.append (law3.dec _ _ h4) (CW.append (law2.dec _ _ h5) (CW.append (law28.dec _ _ h6) (CW.append (law26.dec _ _ h7) (CW.append (law3.dec _ _ h8) (CW.append (law24.dec _ _ h9) (CW.append (law2.dec _ _ h10) (CW.append (law51.dec _ _ h11) (CW.append (law3.dec _ _ h12) (CW.append (law3.dec _ _ h13) (CW.append (law2.dec _ _ h14) (CW.refl []))))))))))))))), fun x => have q := ok_and (law3.ok x.Kind) (ok_and (law2.ok x.Session) (ok_and (law2.ok x.Request) (ok_and (law43.ok x.Op) (ok_and (law3.ok x.Origin) (ok_and (law2.ok x.Seq) (ok_and (law28.ok x.Ops) (ok_and (law26.ok x.Epoch) (ok_and (law3.ok x.From) (ok_and (law24.ok x.Vector_) (ok_and (law2.ok x.Clock) (ok_and (law51.ok x.Part) (ok_and (law3.ok x.Site) (ok_and (law3.ok x.Sponsor) (ok_and (law2.ok x.Length) (ok_t))))))))))))))); q, fun x a h => by obtain ⟨x0, x1, x2, x3, x4, x5, x6, x7, x8, x9, x10, x11, x12, x13, x14, rfl, h0, h1, h2, h3, h4, h5, h6, h7, h8, h9, h10, h11, h12, h13, h14⟩ := decx53 h; exact ok_and (law3.decok _ _ h0) (ok_and (law2.decok _ _ h1) (ok_and (law2.decok _ _ h2) (ok_and (law43.decok _ _ h3) (ok_and (law3.decok _ _ h4) (ok_and (law2.decok _ _ h5) (ok_and (law28.decok _ _ h6) (ok_and (law26.decok _ _ h7) (ok_and (law3.decok _ _ h8) (ok_and (law24.decok _ _ h9) (ok_and (law2.decok _ _ h10) (ok_and (law51.decok _ _ h11) (ok_and (law3.decok _ _ h12) (ok_and (law3.decok _ _ h13) (ok_and (law2.decok _ _ h14) (rfl))))))))))))))), fun x a h => by obtain ⟨x0, x1, x2, x3, x4, x5, x6, x7, x8, x9, x10, x11, x12, x13, x14, rfl, h0, h1, h2, h3, h4, h5, h6, h7, h8, h9, h10, h11, h12, h13, h14⟩ := decx53 h; rfl, fun x => all_app (law3.one _) (all_app (law2.one _) (all_app (law2.one _) (all_app (law43.one _) (all_app (law3.one _) (all_app (law2.one _) (all_app (law28.one _) (all_app (law26.one _) (all_app (law3.one _) (all_app (law24.one _) (all_app (law2.one _) (all_app (law51.one _) (all_app (law3.one _) (all_app (law3.one _) (all_app (law2.one _) (rfl))))))))))))))), fun x => noids_app (law3.noid _) (noids_app (law2.noid _) (noids_app (law2.noid _) (noids_app (law43.noid _) (noids_app (law3.noid _) (noids_app (law2.noid _) (noids_app (law28.noid _) (noids_app (law26.noid _) (noids_app (law3.noid _) (noids_app (law24.noid _) (noids_app (law2.noid _) (noids_app (law51.noid _) (noids_app (law3.noid _) (noids_app (law3.noid _) (noids_app (law2.noid _) (trivial))))))))))))))), (fun ks h => nomatch h), (fun l s h => nomatch h), (fun s l h => nomatch h)⟩
theorem decx101 {x : TV τ} {a : GSlotted} (h : dec101 x = some a) : ∃ x0 x1 x2, x = .agg [x0, x1, x2] ∧ dec2 x0 = some a.Slot ∧ dec47 x1 = some a.Ballot ∧ dec53 x2 = some a.Entry := by
  unfold dec101 at h
  split at h
  · rename_i x0 x1 x2
    split at h
    · rename_i a0 h0
      split at h
      · rename_i a1 h1
        split at h
        · rename_i a2 h2
          cases h
          exact ⟨_, _, _, rfl, h0, h1, h2⟩
        · cases h
      · cases h
    · cases h
  · cases h
theorem law101 : CodAt C 101 := ⟨fun x => app_eq (law2.cel _) (app_eq (law47.cel _) (app_eq (law53.cel _) (rfl))), fun x => len_app (law2.len _) (len_app (law47.len _) (len_app (law53.len _) (rfl))), fun x a h => by obtain ⟨x0, x1, x2, rfl, h0, h1, h2⟩ := decx101 h; exact CW.append (law2.dec _ _ h0) (CW.append (law47.dec _ _ h1) (CW.append (law53.dec _ _ h2) (CW.refl []))), fun x => have q := ok_and (law2.ok x.Slot) (ok_and (law47.ok x.Ballot) (ok_and (law53.ok x.Entry) (ok_t))); q, fun x a h => by obtain ⟨x0, x1, x2, rfl, h0, h1, h2⟩ := decx101 h; exact ok_and (law2.decok _ _ h0) (ok_and (law47.decok _ _ h1) (ok_and (law53.decok _ _ h2) (rfl))), fun x a h => by obtain ⟨x0, x1, x2, rfl, h0, h1, h2⟩ := decx101 h; rfl, fun x => all_app (law2.one _) (all_app (law47.one _) (all_app (law53.one _) (rfl))), fun x => noids_app (law2.noid _) (noids_app (law47.noid _) (noids_app (law53.noid _) (trivial))), (fun ks h => nomatch h), (fun l s h => nomatch h), (fun s l h => nomatch h)⟩
theorem law48 : CodAt C 48 := ⟨fun x => rfl, fun x => rfl, fun x a h => (dSl_cw (C := C) (show dSl 101 x = some a from h)).1, fun x => rfl, fun x a h => (dSl_cw (C := C) (show dSl 101 x = some a from h)).2.1, fun x a h => (dSl_cw (C := C) (show dSl 101 x = some a from h)).2.2, fun a => rfl, fun a => noids_one (NoId.asl fun cs hc => by obtain ⟨y, _, rfl⟩ := List.mem_map.1 hc; exact law101.noid y), (fun ks h => nomatch h), (fun l s h => nomatch h), (fun s l h => nomatch h)⟩
theorem law50 : CodAt C 50 := let q := law51; ⟨q.cel, q.len, q.dec, q.ok, q.decok, q.agg, q.one, q.noid, q.kd, q.b2s, q.s2b⟩
theorem law52 : CodAt C 52 := let q := law53; ⟨q.cel, q.len, q.dec, q.ok, q.decok, q.agg, q.one, q.noid, q.kd, q.b2s, q.s2b⟩
theorem decx54 {x : TV τ} {a : GMsg} (h : dec54 x = some a) : ∃ x0 x1 x2 x3 x4 x5 x6 x7 x8 x9 x10 x11 x12 x13, x = .agg [x0, x1, x2, x3, x4, x5, x6, x7, x8, x9, x10, x11, x12, x13] ∧ dec3 x0 = some a.Kind ∧ dec45 x1 = some a.From ∧ dec45 x2 = some a.To ∧ dec47 x3 = some a.Ballot ∧ dec2 x4 = some a.Slot ∧ dec48 x5 = some a.List_ ∧ dec53 x6 = some a.Entry ∧ dec2 x7 = some a.Number ∧ dec24 x8 = some a.Vector_ ∧ dec2 x9 = some a.Clock ∧ dec3 x10 = some a.Origin ∧ dec28 x11 = some a.Ops ∧ dec26 x12 = some a.Epoch ∧ dec51 x13 = some a.Part := by
  unfold dec54 at h
  split at h
  · rename_i x0 x1 x2 x3 x4 x5 x6 x7 x8 x9 x10 x11 x12 x13
    split at h
    · rename_i a0 h0
      split at h
      · rename_i a1 h1
        split at h
        · rename_i a2 h2
          split at h
          · rename_i a3 h3
            split at h
            · rename_i a4 h4
              split at h
              · rename_i a5 h5
                split at h
                · rename_i a6 h6
                  split at h
                  · rename_i a7 h7
                    split at h
                    · rename_i a8 h8
                      split at h
                      · rename_i a9 h9
                        split at h
                        · rename_i a10 h10
                          split at h
                          · rename_i a11 h11
                            split at h
                            · rename_i a12 h12
                              split at h
                              · rename_i a13 h13
                                cases h
                                exact ⟨_, _, _, _, _, _, _, _, _, _, _, _, _, _, rfl, h0, h1, h2, h3, h4, h5, h6, h7, h8, h9, h10, h11, h12, h13⟩
                              · cases h
                            · cases h
                          · cases h
                        · cases h
                      · cases h
                    · cases h
                  · cases h
                · cases h
              · cases h
            · cases h
          · cases h
        · cases h
      · cases h
    · cases h
  · cases h
theorem law54 : CodAt C 54 := ⟨fun x => app_eq (law3.cel _) (app_eq (law45.cel _) (app_eq (law45.cel _) (app_eq (law47.cel _) (app_eq (law2.cel _) (app_eq (law48.cel _) (app_eq (law53.cel _) (app_eq (law2.cel _) (app_eq (law24.cel _) (app_eq (law2.cel _) (app_eq (law3.cel _) (app_eq (law28.cel _) (app_eq (law26.cel _) (app_eq (law51.cel _) (rfl)))))))))))))), fun x => len_app (law3.len _) (len_app (law45.len _) (len_app (law45.len _) (len_app (law47.len _) (len_app (law2.len _) (len_app (law48.len _) (len_app (law53.len _) (len_app (law2.len _) (len_app (law24.len _) (len_app (law2.len _) (len_app (law3.len _) (len_app (law28.len _) (len_app (law26.len _) (len_app (law51.len _) (rfl)))))))))))))), fun x a h => by obtain ⟨x0, x1, x2, x3, x4, x5, x6, x7, x8, x9, x10, x11, x12, x13, rfl, h0, h1, h2, h3, h4, h5, h6, h7, h8, h9, h10, h11, h12, h13⟩ := decx54 h; exact CW.append (law3.dec _ _ h0) (CW.append (law45.dec _ _ h1) (CW.append (law45.dec _ _ h2) (CW.append (law47.dec _ _ h3) (CW.append (law2.dec _ _ h4) (CW.append (law48.dec _ _ h5) (CW.append (law53.dec _ _ h6) (CW.append (law2.dec _ _ h7) (CW.append (law24.dec _ _ h8) (CW.append (law2.dec _ _ h9) (CW.append (law3.dec _ _ h10) (CW.append (law28.dec _ _ h11) (CW.append (law26.dec _ _ h12) (CW.append (law51.dec _ _ h13) (CW.refl [])))))))))))))), fun x => have q := ok_and (law3.ok x.Kind) (ok_and (law45.ok x.From) (ok_and (law45.ok x.To) (ok_and (law47.ok x.Ballot) (ok_and (law2.ok x.Slot) (ok_and (law48.ok x.List_) (ok_and (law53.ok x.Entry) (ok_and (law2.ok x.Number) (ok_and (law24.ok x.Vector_) (ok_and (law2.ok x.Clock) (ok_and (law3.ok x.Origin) (ok_and (law28.ok x.Ops) (ok_and (law26.ok x.Epoch) (ok_and (law51.ok x.Part) (ok_t)))))))))))))); q, fun x a h => by obtain ⟨x0, x1, x2, x3, x4, x5, x6, x7, x8, x9, x10, x11, x12, x13, rfl, h0, h1, h2, h3, h4, h5, h6, h7, h8, h9, h10, h11, h12, h13⟩ := decx54 h; exact ok_and (law3.decok _ _ h0) (ok_and (law45.decok _ _ h1) (ok_and (law45.decok _ _ h2) (ok_and (law47.decok _ _ h3) (ok_and (law2.decok _ _ h4) (ok_and (law48.decok _ _ h5) (ok_and (law53.decok _ _ h6) (ok_and (law2.decok _ _ h7) (ok_and (law24.decok _ _ h8) (ok_and (law2.decok _ _ h9) (ok_and (law3.decok _ _ h10) (ok_and (law28.decok _ _ h11) (ok_and (law26.decok _ _ h12) (ok_and (law51.decok _ _ h13) (rfl)))))))))))))), fun x a h => by obtain ⟨x0, x1, x2, x3, x4, x5, x6, x7, x8, x9, x10, x11, x12, x13, rfl, h0, h1, h2, h3, h4, h5, h6, h7, h8, h9, h10, h11, h12, h13⟩ := decx54 h; rfl, fun x => all_app (law3.one _) (all_app (law45.one _) (all_app (law45.one _) (all_app (law47.one _) (all_app (law2.one _) (all_app (law48.one _) (all_app (law53.one _) (all_app (law2.one _) (all_app (law24.one _) (all_app (law2.one _) (all_app (law3.one _) (all_app (law28.one _) (all_app (law26.one _) (all_app (law51.one _) (rfl)))))))))))))), fun x => noids_app (law3.noid _) (noids_app (law45.noid _) (noids_app (law45.noid _) (noids_app (law47.noid _) (noids_app (law2.noid _) (noids_app (law48.noid _) (noids_app (law53.noid _) (noids_app (law2.noid _) (noids_app (law24.noid _) (noids_app (law2.noid _) (noids_app (law3.noid _) (noids_app (law28.noid _) (noids_app (law26.noid _) (noids_app (law51.noid _) (trivial)))))))))))))), (fun ks h => nomatch h), (fun l s h => nomatch h), (fun s l h => nomatch h)⟩
theorem law55 : CodAt C 55 := let q := law54; ⟨q.cel, q.len, q.dec, q.ok, q.decok, q.agg, q.one, q.noid, q.kd, q.b2s, q.s2b⟩
theorem law60 : CodAt C 60 := ⟨fun x => rfl, fun x => rfl, fun x a h => (dSl_cw (C := C) (show dSl 3 x = some a from h)).1, fun x => rfl, fun x a h => (dSl_cw (C := C) (show dSl 3 x = some a from h)).2.1, fun x a h => (dSl_cw (C := C) (show dSl 3 x = some a from h)).2.2, fun a => rfl, fun a => noids_one (NoId.asl fun cs hc => by obtain ⟨y, _, rfl⟩ := List.mem_map.1 hc; exact law3.noid y), (fun ks h => nomatch h), (fun l s h => nomatch h), (fun s l h => nomatch h)⟩
theorem law65 : CodAt C 65 := ⟨fun x => rfl, fun x => rfl, fun x a h => (dSl_cw (C := C) (show dSl 55 x = some a from h)).1, fun x => rfl, fun x a h => (dSl_cw (C := C) (show dSl 55 x = some a from h)).2.1, fun x a h => (dSl_cw (C := C) (show dSl 55 x = some a from h)).2.2, fun a => rfl, fun a => noids_one (NoId.asl fun cs hc => by obtain ⟨y, _, rfl⟩ := List.mem_map.1 hc; exact law55.noid y), (fun ks h => nomatch h), (fun l s h => nomatch h), (fun s l h => nomatch h)⟩
theorem law97 : CodAt C 97 := let q := law98; ⟨q.cel, q.len, q.dec, q.ok, q.decok, q.agg, q.one, q.noid, q.kd, q.b2s, q.s2b⟩
theorem law100 : CodAt C 100 := let q := law101; ⟨q.cel, q.len, q.dec, q.ok, q.decok, q.agg, q.one, q.noid, q.kd, q.b2s, q.s2b⟩
theorem law102 : CodAt C 102 := ⟨fun x => rfl, fun x => rfl, fun x a h => (dSl_cw (C := C) (show dSl 9 x = some a from h)).1, fun x => rfl, fun x a h => (dSl_cw (C := C) (show dSl 9 x = some a from h)).2.1, fun x a h => (dSl_cw (C := C) (show dSl 9 x = some a from h)).2.2, fun a => rfl, fun a => noids_one (NoId.asl fun cs hc => by obtain ⟨y, _, rfl⟩ := List.mem_map.1 hc; exact law9.noid y), (fun ks h => nomatch h), (fun l s h => nomatch h), (fun s l h => nomatch h)⟩
theorem law107 : CodAt C 107 := ⟨fun x => rfl, fun x => rfl, fun x a h => (dSl_cw (C := C) (show dSl 45 x = some a from h)).1, fun x => rfl, fun x a h => (dSl_cw (C := C) (show dSl 45 x = some a from h)).2.1, fun x a h => (dSl_cw (C := C) (show dSl 45 x = some a from h)).2.2, fun a => rfl, fun a => noids_one (NoId.asl fun cs hc => by obtain ⟨y, _, rfl⟩ := List.mem_map.1 hc; exact law45.noid y), (fun ks h => nomatch h), (fun l s h => nomatch h), (fun s l h => nomatch h)⟩
theorem law115 : CodAt C 115 := ⟨fun x => rfl, fun x => rfl, fun x a h => (dSl_cw (C := C) (show dSl 24 x = some a from h)).1, fun x => rfl, fun x a h => (dSl_cw (C := C) (show dSl 24 x = some a from h)).2.1, fun x a h => (dSl_cw (C := C) (show dSl 24 x = some a from h)).2.2, fun a => rfl, fun a => noids_one (NoId.asl fun cs hc => by obtain ⟨y, _, rfl⟩ := List.mem_map.1 hc; exact law24.noid y), (fun ks h => nomatch h), (fun l s h => nomatch h), (fun s l h => nomatch h)⟩
theorem law126 : CodAt C 126 := ⟨fun x => rfl, fun x => rfl, fun x a h => (dSl_cw (C := C) (show dSl 2 x = some a from h)).1, fun x => rfl, fun x a h => (dSl_cw (C := C) (show dSl 2 x = some a from h)).2.1, fun x a h => (dSl_cw (C := C) (show dSl 2 x = some a from h)).2.2, fun a => rfl, fun a => noids_one (NoId.asl fun cs hc => by obtain ⟨y, _, rfl⟩ := List.mem_map.1 hc; exact law2.noid y), (fun ks h => nomatch h), (fun l s h => nomatch h), (fun s l h => nomatch h)⟩
theorem law138 : CodAt C 138 := ⟨fun x => rfl, fun x => rfl, fun x a h => (dSl_cw (C := C) (show dSl 4 x = some a from h)).1, fun x => rfl, fun x a h => (dSl_cw (C := C) (show dSl 4 x = some a from h)).2.1, fun x a h => (dSl_cw (C := C) (show dSl 4 x = some a from h)).2.2, fun a => rfl, fun a => noids_one (NoId.asl fun cs hc => by obtain ⟨y, _, rfl⟩ := List.mem_map.1 hc; exact law4.noid y), (fun ks h => nomatch h), (fun l s h => nomatch h), (fun s l h => nomatch h)⟩
theorem law150 : CodAt C 150 := ⟨fun x => rfl, fun x => rfl, fun x a h => (dSl_cw (C := C) (show dSl 27 x = some a from h)).1, fun x => rfl, fun x a h => (dSl_cw (C := C) (show dSl 27 x = some a from h)).2.1, fun x a h => (dSl_cw (C := C) (show dSl 27 x = some a from h)).2.2, fun a => rfl, fun a => noids_one (NoId.asl fun cs hc => by obtain ⟨y, _, rfl⟩ := List.mem_map.1 hc; exact law27.noid y), (fun ks h => nomatch h), (fun l s h => nomatch h), (fun s l h => nomatch h)⟩
theorem decx151 {x : TV τ} {a : Gorchardref12_Tree} (h : dec151 x = some a) : ∃ x0 x1, x = .agg [x0, x1] ∧ dec27 x0 = some a.nodes ∧ dec150 x1 = some a.was := by
  unfold dec151 at h
  split at h
  · rename_i x0 x1
    split at h
    · rename_i a0 h0
      split at h
      · rename_i a1 h1
        cases h
        exact ⟨_, _, rfl, h0, h1⟩
      · cases h
    · cases h
  · cases h
theorem law151 : CodAt C 151 := ⟨fun x => app_eq (law27.cel _) (app_eq (law150.cel _) (rfl)), fun x => len_app (law27.len _) (len_app (law150.len _) (rfl)), fun x a h => by obtain ⟨x0, x1, rfl, h0, h1⟩ := decx151 h; exact CW.append (law27.dec _ _ h0) (CW.append (law150.dec _ _ h1) (CW.refl [])), fun x => have q := ok_and (law27.ok x.nodes) (ok_and (law150.ok x.was) (ok_t)); q, fun x a h => by obtain ⟨x0, x1, rfl, h0, h1⟩ := decx151 h; exact ok_and (law27.decok _ _ h0) (ok_and (law150.decok _ _ h1) (rfl)), fun x a h => by obtain ⟨x0, x1, rfl, h0, h1⟩ := decx151 h; rfl, fun x => all_app (law27.one _) (all_app (law150.one _) (rfl)), fun x => noids_app (law27.noid _) (noids_app (law150.noid _) (trivial)), (fun ks h => nomatch h), (fun l s h => nomatch h), (fun s l h => nomatch h)⟩
theorem law152 : CodAt C 152 := let q := law151; ⟨q.cel, q.len, q.dec, q.ok, q.decok, q.agg, q.one, q.noid, q.kd, q.b2s, q.s2b⟩
theorem law156 : CodAt C 156 := let q := law157; ⟨q.cel, q.len, q.dec, q.ok, q.decok, q.agg, q.one, q.noid, q.kd, q.b2s, q.s2b⟩
theorem law158 : CodAt C 158 := let q := law159; ⟨q.cel, q.len, q.dec, q.ok, q.decok, q.agg, q.one, q.noid, q.kd, q.b2s, q.s2b⟩
theorem law168 : CodAt C 168 := let q := law169; ⟨q.cel, q.len, q.dec, q.ok, q.decok, q.agg, q.one, q.noid, q.kd, q.b2s, q.s2b⟩
theorem law175 : CodAt C 175 := ⟨fun x => rfl, fun x => rfl, fun x a h => by rw [dInt_x (show dInt .u64 x = some a from h)]; exact .refl _, fun x => rfl, fun x a h => by rw [dInt_x (show dInt .u64 x = some a from h)]; rfl, fun x a h => by rw [dInt_x (show dInt .u64 x = some a from h)]; rfl, fun a => rfl, fun a => noids_one (NoId.v _), fun ks h a b => by cases h; simp [eqCells, scal, C, celT, cel175, beqT, beq175], (fun l s h => nomatch h), (fun s l h => nomatch h)⟩
theorem law176 : CodAt C 176 := ⟨fun x => rfl, fun x => rfl, fun x a h => by rw [dInt_x (show dInt .u32 x = some a from h)]; exact .refl _, fun x => rfl, fun x a h => by rw [dInt_x (show dInt .u32 x = some a from h)]; rfl, fun x a h => by rw [dInt_x (show dInt .u32 x = some a from h)]; rfl, fun a => rfl, fun a => noids_one (NoId.v _), fun ks h a b => by cases h; simp [eqCells, scal, C, celT, cel176, beqT, beq176], (fun l s h => nomatch h), (fun s l h => nomatch h)⟩
theorem lawX {t : Nat} (h : celT t = fun _ => []) (h1 : encT t = fun _ => .agg []) (h2 : decT t = fun _ => none) (h3 : szT t = 0) (h4 : kdT t = none) (h5 : b2sT t = fun _ => none) (h6 : s2bT t = fun _ => none) : CodAt C t := by
  refine ⟨fun x => ?_, fun x => ?_, fun x a hx => ?_, fun x => ?_, fun x a hx => ?_, fun x a hx => ?_, fun a => ?_, fun a => ?_, fun ks hk => ?_, fun l s hl => ?_, fun s l hl => ?_⟩
  · show (encT t x).cells C = celT t x; rw [h, h1]; rfl
  · show (celT t x).length = szT t; rw [h, h3]; rfl
  · have e : decT t x = some a := hx; rw [h2] at e; cases e
  · show (encT t x).ok = true; rw [h1]; rfl
  · have e : decT t x = some a := hx; rw [h2] at e; cases e
  · have e : decT t x = some a := hx; rw [h2] at e; cases e
  · show (celT t a).all AV.one = true; rw [h]; rfl
  · show NoIds (celT t a); rw [h]; trivial
  · have e : kdT t = some ks := hk; rw [h4] at e; cases e
  · have e : b2sT t l = some s := hl; rw [h5] at e; cases e
  · have e : s2bT t s = some l := hl; rw [h6] at e; cases e
theorem lawOther : ∀ t : Nat, t ≠ 2 → t ≠ 3 → t ≠ 4 → t ≠ 5 → t ≠ 9 → t ≠ 12 → t ≠ 21 → t ≠ 22 → t ≠ 23 → t ≠ 24 → t ≠ 25 → t ≠ 26 → t ≠ 27 → t ≠ 28 → t ≠ 29 → t ≠ 30 → t ≠ 31 → t ≠ 32 → t ≠ 33 → t ≠ 34 → t ≠ 40 → t ≠ 41 → t ≠ 42 → t ≠ 43 → t ≠ 44 → t ≠ 45 → t ≠ 46 → t ≠ 47 → t ≠ 48 → t ≠ 49 → t ≠ 50 → t ≠ 51 → t ≠ 52 → t ≠ 53 → t ≠ 54 → t ≠ 55 → t ≠ 56 → t ≠ 60 → t ≠ 65 → t ≠ 96 → t ≠ 97 → t ≠ 98 → t ≠ 100 → t ≠ 101 → t ≠ 102 → t ≠ 107 → t ≠ 115 → t ≠ 126 → t ≠ 138 → t ≠ 150 → t ≠ 151 → t ≠ 152 → t ≠ 156 → t ≠ 157 → t ≠ 158 → t ≠ 159 → t ≠ 168 → t ≠ 169 → t ≠ 175 → t ≠ 176 → CodAt C t
  | t, h2, h3, h4, h5, h9, h12, h21, h22, h23, h24, h25, h26, h27, h28, h29, h30, h31, h32, h33, h34, h40, h41, h42, h43, h44, h45, h46, h47, h48, h49, h50, h51, h52, h53, h54, h55, h56, h60, h65, h96, h97, h98, h100, h101, h102, h107, h115, h126, h138, h150, h151, h152, h156, h157, h158, h159, h168, h169, h175, h176 => by
    apply lawX <;> first
      | (unfold celT; split <;> first | rfl | contradiction | (exfalso; omega))
      | (unfold encT; split <;> first | rfl | contradiction | (exfalso; omega))
      | (unfold decT; split <;> first | rfl | contradiction | (exfalso; omega))
      | (unfold szT; split <;> first | rfl | contradiction | (exfalso; omega))
      | (unfold kdT; split <;> first | rfl | contradiction | (exfalso; omega))
      | (unfold b2sT; split <;> first | rfl | contradiction | (exfalso; omega))
      | (unfold s2bT; split <;> first | rfl | contradiction | (exfalso; omega))
theorem cOk : C.Ok := Cod.Ok.of fun t => by
  by_cases h2 : t = 2
  · subst h2; exact law2
  by_cases h3 : t = 3
  · subst h3; exact law3
  by_cases h4 : t = 4
  · subst h4; exact law4
  by_cases h5 : t = 5
  · subst h5; exact law5
  by_cases h9 : t = 9
  · subst h9; exact law9
  by_cases h12 : t = 12
  · subst h12; exact law12
  by_cases h21 : t = 21
  · subst h21; exact law21
  by_cases h22 : t = 22
  · subst h22; exact law22
  by_cases h23 : t = 23
  · subst h23; exact law23
  by_cases h24 : t = 24
  · subst h24; exact law24
  by_cases h25 : t = 25
  · subst h25; exact law25
  by_cases h26 : t = 26
  · subst h26; exact law26
  by_cases h27 : t = 27
  · subst h27; exact law27
  by_cases h28 : t = 28
  · subst h28; exact law28
  by_cases h29 : t = 29
  · subst h29; exact law29
  by_cases h30 : t = 30
  · subst h30; exact law30
  by_cases h31 : t = 31
  · subst h31; exact law31
  by_cases h32 : t = 32
  · subst h32; exact law32
  by_cases h33 : t = 33
  · subst h33; exact law33
  by_cases h34 : t = 34
  · subst h34; exact law34
  by_cases h40 : t = 40
  · subst h40; exact law40
  by_cases h41 : t = 41
  · subst h41; exact law41
  by_cases h42 : t = 42
  · subst h42; exact law42
  by_cases h43 : t = 43
  · subst h43; exact law43
  by_cases h44 : t = 44
  · subst h44; exact law44
  by_cases h45 : t = 45
  · subst h45; exact law45
  by_cases h46 : t = 46
  · subst h46; exact law46
  by_cases h47 : t = 47
  · subst h47; exact law47
  by_cases h48 : t = 48
  · subst h48; exact law48
  by_cases h49 : t = 49
  · subst h49; exact law49
  by_cases h50 : t = 50
  · subst h50; exact law50
  by_cases h51 : t = 51
  · subst h51; exact law51
  by_cases h52 : t = 52
  · subst h52; exact law52
  by_cases h53 : t = 53
  · subst h53; exact law53
  by_cases h54 : t = 54
  · subst h54; exact law54
  by_cases h55 : t = 55
  · subst h55; exact law55
  by_cases h56 : t = 56
  · subst h56; exact law56
  by_cases h60 : t = 60
  · subst h60; exact law60
  by_cases h65 : t = 65
  · subst h65; exact law65
  by_cases h96 : t = 96
  · subst h96; exact law96
  by_cases h97 : t = 97
  · subst h97; exact law97
  by_cases h98 : t = 98
  · subst h98; exact law98
  by_cases h100 : t = 100
  · subst h100; exact law100
  by_cases h101 : t = 101
  · subst h101; exact law101
  by_cases h102 : t = 102
  · subst h102; exact law102
  by_cases h107 : t = 107
  · subst h107; exact law107
  by_cases h115 : t = 115
  · subst h115; exact law115
  by_cases h126 : t = 126
  · subst h126; exact law126
  by_cases h138 : t = 138
  · subst h138; exact law138
  by_cases h150 : t = 150
  · subst h150; exact law150
  by_cases h151 : t = 151
  · subst h151; exact law151
  by_cases h152 : t = 152
  · subst h152; exact law152
  by_cases h156 : t = 156
  · subst h156; exact law156
  by_cases h157 : t = 157
  · subst h157; exact law157
  by_cases h158 : t = 158
  · subst h158; exact law158
  by_cases h159 : t = 159
  · subst h159; exact law159
  by_cases h168 : t = 168
  · subst h168; exact law168
  by_cases h169 : t = 169
  · subst h169; exact law169
  by_cases h175 : t = 175
  · subst h175; exact law175
  by_cases h176 : t = 176
  · subst h176; exact law176
  exact lawOther t h2 h3 h4 h5 h9 h12 h21 h22 h23 h24 h25 h26 h27 h28 h29 h30 h31 h32 h33 h34 h40 h41 h42 h43 h44 h45 h46 h47 h48 h49 h50 h51 h52 h53 h54 h55 h56 h60 h65 h96 h97 h98 h100 h101 h102 h107 h115 h126 h138 h150 h151 h152 h156 h157 h158 h159 h168 h169 h175 h176
def oi : TV τ := .int .i64 0
def zeroT : Nat → Option (TV τ)
  | 2 => some (oi)
  | 3 => some (oi)
  | 4 => some (.bool false)
  | 5 => some (.int .u8 0)
  | 9 => some (.str [])
  | 12 => some (.int .u64 0)
  | 21 => some (.int .i32 0)
  | 22 => some (.arr 3 8 (Vector.replicate 8 (default : Int)))
  | 23 => some (.arr 2 8 (Vector.replicate 8 (default : Int)))
  | 24 => some (.arr 2 8 (Vector.replicate 8 (default : Int)))
  | 25 => some (.agg [oi, (.arr 3 8 (Vector.replicate 8 (default : Int))), (.arr 2 8 (Vector.replicate 8 (default : Int))), (.arr 3 8 (Vector.replicate 8 (default : Int)))])
  | 26 => some (.agg [oi, (.arr 3 8 (Vector.replicate 8 (default : Int))), (.arr 2 8 (Vector.replicate 8 (default : Int))), (.arr 3 8 (Vector.replicate 8 (default : Int)))])
  | 27 => some (.nil .slice)
  | 28 => some (.nil .slice)
  | 29 => some (.arr 28 8 (Vector.replicate 8 (default : List (GOp))))
  | 30 => some (.arr 24 8 (Vector.replicate 8 (default : Vector (Int) 8)))
  | 31 => some (.nil .slice)
  | 32 => some (.nil .slice)
  | 33 => some (.agg [oi, oi, (.bool false), .agg [oi, (.arr 3 8 (Vector.replicate 8 (default : Int))), (.arr 2 8 (Vector.replicate 8 (default : Int))), (.arr 3 8 (Vector.replicate 8 (default : Int)))], oi, (.arr 2 8 (Vector.replicate 8 (default : Int))), (.arr 2 8 (Vector.replicate 8 (default : Int))), (.nil .slice), (.nil .slice), oi, (.arr 2 8 (Vector.replicate 8 (default : Int))), (.arr 28 8 (Vector.replicate 8 (default : List (GOp)))), (.arr 24 8 (Vector.replicate 8 (default : Vector (Int) 8))), (.arr 2 8 (Vector.replicate 8 (default : Int))), (.arr 2 8 (Vector.replicate 8 (default : Int))), (.arr 2 8 (Vector.replicate 8 (default : Int))), (.nil .slice), (.nil .slice)])
  | 34 => some (.agg [oi, oi, (.bool false), .agg [oi, (.arr 3 8 (Vector.replicate 8 (default : Int))), (.arr 2 8 (Vector.replicate 8 (default : Int))), (.arr 3 8 (Vector.replicate 8 (default : Int)))], oi, (.arr 2 8 (Vector.replicate 8 (default : Int))), (.arr 2 8 (Vector.replicate 8 (default : Int))), (.nil .slice), (.nil .slice), oi, (.arr 2 8 (Vector.replicate 8 (default : Int))), (.arr 28 8 (Vector.replicate 8 (default : List (GOp)))), (.arr 24 8 (Vector.replicate 8 (default : Vector (Int) 8))), (.arr 2 8 (Vector.replicate 8 (default : Int))), (.arr 2 8 (Vector.replicate 8 (default : Int))), (.arr 2 8 (Vector.replicate 8 (default : Int))), (.nil .slice), (.nil .slice)])
  | 40 => some (.agg [oi, oi])
  | 41 => some (.agg [oi, oi])
  | 42 => some (.agg [.agg [oi, oi], oi, oi, oi, (.str []), (.str []), (.str [])])
  | 43 => some (.agg [.agg [oi, oi], oi, oi, oi, (.str []), (.str []), (.str [])])
  | 44 => some (.agg [oi, oi])
  | 45 => some (.agg [oi, oi])
  | 46 => some (.agg [oi, oi])
  | 47 => some (.agg [oi, oi])
  | 48 => some (.nil .slice)
  | 49 => some (.nil .slice)
  | 50 => some (.agg [oi, oi, oi, (.nil .slice)])
  | 51 => some (.agg [oi, oi, oi, (.nil .slice)])
  | 52 => some (.agg [oi, oi, oi, .agg [.agg [oi, oi], oi, oi, oi, (.str []), (.str []), (.str [])], oi, oi, (.nil .slice), .agg [oi, (.arr 3 8 (Vector.replicate 8 (default : Int))), (.arr 2 8 (Vector.replicate 8 (default : Int))), (.arr 3 8 (Vector.replicate 8 (default : Int)))], oi, (.arr 2 8 (Vector.replicate 8 (default : Int))), oi, .agg [oi, oi, oi, (.nil .slice)], oi, oi, oi])
  | 53 => some (.agg [oi, oi, oi, .agg [.agg [oi, oi], oi, oi, oi, (.str []), (.str []), (.str [])], oi, oi, (.nil .slice), .agg [oi, (.arr 3 8 (Vector.replicate 8 (default : Int))), (.arr 2 8 (Vector.replicate 8 (default : Int))), (.arr 3 8 (Vector.replicate 8 (default : Int)))], oi, (.arr 2 8 (Vector.replicate 8 (default : Int))), oi, .agg [oi, oi, oi, (.nil .slice)], oi, oi, oi])
  | 54 => some (.agg [oi, .agg [oi, oi], .agg [oi, oi], .agg [oi, oi], oi, (.nil .slice), .agg [oi, oi, oi, .agg [.agg [oi, oi], oi, oi, oi, (.str []), (.str []), (.str [])], oi, oi, (.nil .slice), .agg [oi, (.arr 3 8 (Vector.replicate 8 (default : Int))), (.arr 2 8 (Vector.replicate 8 (default : Int))), (.arr 3 8 (Vector.replicate 8 (default : Int)))], oi, (.arr 2 8 (Vector.replicate 8 (default : Int))), oi, .agg [oi, oi, oi, (.nil .slice)], oi, oi, oi], oi, (.arr 2 8 (Vector.replicate 8 (default : Int))), oi, oi, (.nil .slice), .agg [oi, (.arr 3 8 (Vector.replicate 8 (default : Int))), (.arr 2 8 (Vector.replicate 8 (default : Int))), (.arr 3 8 (Vector.replicate 8 (default : Int)))], .agg [oi, oi, oi, (.nil .slice)]])
  | 55 => some (.agg [oi, .agg [oi, oi], .agg [oi, oi], .agg [oi, oi], oi, (.nil .slice), .agg [oi, oi, oi, .agg [.agg [oi, oi], oi, oi, oi, (.str []), (.str []), (.str [])], oi, oi, (.nil .slice), .agg [oi, (.arr 3 8 (Vector.replicate 8 (default : Int))), (.arr 2 8 (Vector.replicate 8 (default : Int))), (.arr 3 8 (Vector.replicate 8 (default : Int)))], oi, (.arr 2 8 (Vector.replicate 8 (default : Int))), oi, .agg [oi, oi, oi, (.nil .slice)], oi, oi, oi], oi, (.arr 2 8 (Vector.replicate 8 (default : Int))), oi, oi, (.nil .slice), .agg [oi, (.arr 3 8 (Vector.replicate 8 (default : Int))), (.arr 2 8 (Vector.replicate 8 (default : Int))), (.arr 3 8 (Vector.replicate 8 (default : Int)))], .agg [oi, oi, oi, (.nil .slice)]])
  | 56 => some (oi)
  | 60 => some (.nil .slice)
  | 65 => some (.nil .slice)
  | 96 => some (.nil .slice)
  | 97 => some (.agg [oi, oi, (.str []), (.nil .slice)])
  | 98 => some (.agg [oi, oi, (.str []), (.nil .slice)])
  | 100 => some (.agg [oi, .agg [oi, oi], .agg [oi, oi, oi, .agg [.agg [oi, oi], oi, oi, oi, (.str []), (.str []), (.str [])], oi, oi, (.nil .slice), .agg [oi, (.arr 3 8 (Vector.replicate 8 (default : Int))), (.arr 2 8 (Vector.replicate 8 (default : Int))), (.arr 3 8 (Vector.replicate 8 (default : Int)))], oi, (.arr 2 8 (Vector.replicate 8 (default : Int))), oi, .agg [oi, oi, oi, (.nil .slice)], oi, oi, oi]])
  | 101 => some (.agg [oi, .agg [oi, oi], .agg [oi, oi, oi, .agg [.agg [oi, oi], oi, oi, oi, (.str []), (.str []), (.str [])], oi, oi, (.nil .slice), .agg [oi, (.arr 3 8 (Vector.replicate 8 (default : Int))), (.arr 2 8 (Vector.replicate 8 (default : Int))), (.arr 3 8 (Vector.replicate 8 (default : Int)))], oi, (.arr 2 8 (Vector.replicate 8 (default : Int))), oi, .agg [oi, oi, oi, (.nil .slice)], oi, oi, oi]])
  | 102 => some (.nil .slice)
  | 107 => some (.nil .slice)
  | 115 => some (.nil .slice)
  | 116 => some (.nil .ptr)
  | 126 => some (.nil .slice)
  | 138 => some (.nil .slice)
  | 150 => some (.nil .slice)
  | 151 => some (.agg [(.nil .slice), (.nil .slice)])
  | 152 => some (.agg [(.nil .slice), (.nil .slice)])
  | 156 => some (.agg [oi, .agg [oi, oi], oi])
  | 157 => some (.agg [oi, .agg [oi, oi], oi])
  | 158 => some (.agg [oi, oi, .agg [oi, .agg [oi, oi], oi]])
  | 159 => some (.agg [oi, oi, .agg [oi, .agg [oi, oi], oi]])
  | 168 => some (.agg [(.str []), (.str [])])
  | 169 => some (.agg [(.str []), (.str [])])
  | 175 => some (.int .u64 0)
  | 176 => some (.int .u32 0)
  | _ => none
def Zok (t : Nat) (z : TV τ) : Prop := ∃ i, E.ty t = some i ∧ z.ok = true ∧ CW i.zero (z.cells C) ∧ z.isAgg = i.agg
theorem zok2 : Zok 2 (oi) := ⟨ti2, rfl, rfl, CW.of_eq (by kernel_rfl), rfl⟩
theorem zok3 : Zok 3 (oi) := ⟨ti3, rfl, rfl, CW.of_eq (by kernel_rfl), rfl⟩
theorem zok4 : Zok 4 (.bool false) := ⟨ti4, rfl, rfl, CW.of_eq (by kernel_rfl), rfl⟩
theorem zok5 : Zok 5 (.int .u8 0) := ⟨ti5, rfl, rfl, CW.of_eq (by kernel_rfl), rfl⟩
theorem zok9 : Zok 9 (.str []) := ⟨ti9, rfl, rfl, CW.of_eq (by kernel_rfl), rfl⟩
theorem zok12 : Zok 12 (.int .u64 0) := ⟨ti12, rfl, rfl, CW.of_eq (by kernel_rfl), rfl⟩
theorem zok21 : Zok 21 (.int .i32 0) := ⟨ti21, rfl, rfl, CW.of_eq (by kernel_rfl), rfl⟩
theorem zok22 : Zok 22 (.arr 3 8 (Vector.replicate 8 (default : Int))) := ⟨ti22, rfl, rfl, CW.of_eq (by kernel_rfl), rfl⟩
theorem zok23 : Zok 23 (.arr 2 8 (Vector.replicate 8 (default : Int))) := ⟨ti23, rfl, rfl, CW.of_eq (by kernel_rfl), rfl⟩
theorem zok24 : Zok 24 (.arr 2 8 (Vector.replicate 8 (default : Int))) := ⟨ti24, rfl, rfl, CW.of_eq (by kernel_rfl), rfl⟩
theorem zok25 : Zok 25 (.agg [oi, (.arr 3 8 (Vector.replicate 8 (default : Int))), (.arr 2 8 (Vector.replicate 8 (default : Int))), (.arr 3 8 (Vector.replicate 8 (default : Int)))]) := ⟨ti25, rfl, rfl, CW.of_eq (by kernel_rfl), rfl⟩
theorem zok26 : Zok 26 (.agg [oi, (.arr 3 8 (Vector.replicate 8 (default : Int))), (.arr 2 8 (Vector.replicate 8 (default : Int))), (.arr 3 8 (Vector.replicate 8 (default : Int)))]) := ⟨ti26, rfl, rfl, CW.of_eq (by kernel_rfl), rfl⟩
theorem zok27 : Zok 27 (.nil .slice) := ⟨ti27, rfl, rfl, CW.of_eq (by kernel_rfl), rfl⟩
theorem zok28 : Zok 28 (.nil .slice) := ⟨ti28, rfl, rfl, CW.of_eq (by kernel_rfl), rfl⟩
theorem zok29 : Zok 29 (.arr 28 8 (Vector.replicate 8 (default : List (GOp)))) := ⟨ti29, rfl, rfl, (show ((.arr 28 8 (Vector.replicate 8 (default : List (GOp))) : TV τ).cells C) = [.asl 8 [], .asl 8 [], .asl 8 [], .asl 8 [], .asl 8 [], .asl 8 [], .asl 8 [], .asl 8 []] from by kernel_rfl) ▸ zz_cw (trivial), rfl⟩
theorem zok30 : Zok 30 (.arr 24 8 (Vector.replicate 8 (default : Vector (Int) 8))) := ⟨ti30, rfl, rfl, CW.of_eq (by kernel_rfl), rfl⟩
theorem zok31 : Zok 31 (.nil .slice) := ⟨ti31, rfl, rfl, CW.of_eq (by kernel_rfl), rfl⟩
theorem zok32 : Zok 32 (.nil .slice) := ⟨ti32, rfl, rfl, CW.of_eq (by kernel_rfl), rfl⟩
theorem zok33 : Zok 33 (.agg [oi, oi, (.bool false), .agg [oi, (.arr 3 8 (Vector.replicate 8 (default : Int))), (.arr 2 8 (Vector.replicate 8 (default : Int))), (.arr 3 8 (Vector.replicate 8 (default : Int)))], oi, (.arr 2 8 (Vector.replicate 8 (default : Int))), (.arr 2 8 (Vector.replicate 8 (default : Int))), (.nil .slice), (.nil .slice), oi, (.arr 2 8 (Vector.replicate 8 (default : Int))), (.arr 28 8 (Vector.replicate 8 (default : List (GOp)))), (.arr 24 8 (Vector.replicate 8 (default : Vector (Int) 8))), (.arr 2 8 (Vector.replicate 8 (default : Int))), (.arr 2 8 (Vector.replicate 8 (default : Int))), (.arr 2 8 (Vector.replicate 8 (default : Int))), (.nil .slice), (.nil .slice)]) := ⟨ti33, rfl, rfl, (show ((.agg [oi, oi, (.bool false), .agg [oi, (.arr 3 8 (Vector.replicate 8 (default : Int))), (.arr 2 8 (Vector.replicate 8 (default : Int))), (.arr 3 8 (Vector.replicate 8 (default : Int)))], oi, (.arr 2 8 (Vector.replicate 8 (default : Int))), (.arr 2 8 (Vector.replicate 8 (default : Int))), (.nil .slice), (.nil .slice), oi, (.arr 2 8 (Vector.replicate 8 (default : Int))), (.arr 28 8 (Vector.replicate 8 (default : List (GOp)))), (.arr 24 8 (Vector.replicate 8 (default : Vector (Int) 8))), (.arr 2 8 (Vector.replicate 8 (default : Int))), (.arr 2 8 (Vector.replicate 8 (default : Int))), (.arr 2 8 (Vector.replicate 8 (default : Int))), (.nil .slice), (.nil .slice)] : TV τ).cells C) = [.v (.int .i64 0), .v (.int .i64 0), .v (.bool false), .v (.int .i64 0), .v (.int .i64 0), .v (.int .i64 0), .v (.int .i64 0), .v (.int .i64 0), .v (.int .i64 0), .v (.int .i64 0), .v (.int .i64 0), .v (.int .i64 0), .v (.int .i64 0), .v (.int .i64 0), .v (.int .i64 0), .v (.int .i64 0), .v (.int .i64 0), .v (.int .i64 0), .v (.int .i64 0), .v (.int .i64 0), .v (.int .i64 0), .v (.int .i64 0), .v (.int .i64 0), .v (.int .i64 0), .v (.int .i64 0), .v (.int .i64 0), .v (.int .i64 0), .v (.int .i64 0), .v (.int .i64 0), .v (.int .i64 0), .v (.int .i64 0), .v (.int .i64 0), .v (.int .i64 0), .v (.int .i64 0), .v (.int .i64 0), .v (.int .i64 0), .v (.int .i64 0), .v (.int .i64 0), .v (.int .i64 0), .v (.int .i64 0), .v (.int .i64 0), .v (.int .i64 0), .v (.int .i64 0), .v (.int .i64 0), .v (.int .i64 0), .v (.slice none 0 0), .v (.slice none 0 0), .v (.int .i64 0), .v (.int .i64 0), .v (.int .i64 0), .v (.int .i64 0), .v (.int .i64 0), .v (.int .i64 0), .v (.int .i64 0), .v (.int .i64 0), .v (.int .i64 0), .asl 8 [], .asl 8 [], .asl 8 [], .asl 8 [], .asl 8 [], .asl 8 [], .asl 8 [], .asl 8 [], .v (.int .i64 0), .v (.int .i64 0), .v (.int .i64 0), .v (.int .i64 0), .v (.int .i64 0), .v (.int .i64 0), .v (.int .i64 0), .v (.int .i64 0), .v (.int .i64 0), .v (.int .i64 0), .v (.int .i64 0), .v (.int .i64 0), .v (.int .i64 0), .v (.int .i64 0), .v (.int .i64 0), .v (.int .i64 0), .v (.int .i64 0), .v (.int .i64 0), .v (.int .i64 0), .v (.int .i64 0), .v (.int .i64 0), .v (.int .i64 0), .v (.int .i64 0), .v (.int .i64 0), .v (.int .i64 0), .v (.int .i64 0), .v (.int .i64 0), .v (.int .i64 0), .v (.int .i64 0), .v (.int .i64 0), .v (.int .i64 0), .v (.int .i64 0), .v (.int .i64 0), .v (.int .i64 0), .v (.int .i64 0), .v (.int .i64 0), .v (.int .i64 0), .v (.int .i64 0), .v (.int .i64 0), .v (.int .i64 0), .v (.int .i64 0), .v (.int .i64 0), .v (.int .i64 0), .v (.int .i64 0), .v (.int .i64 0), .v (.int .i64 0), .v (.int .i64 0), .v (.int .i64 0), .v (.int .i64 0), .v (.int .i64 0), .v (.int .i64 0), .v (.int .i64 0), .v (.int .i64 0), .v (.int .i64 0), .v (.int .i64 0), .v (.int .i64 0), .v (.int .i64 0), .v (.int .i64 0), .v (.int .i64 0), .v (.int .i64 0), .v (.int .i64 0), .v (.int .i64 0), .v (.int .i64 0), .v (.int .i64 0), .v (.int .i64 0), .v (.int .i64 0), .v (.int .i64 0), .v (.int .i64 0), .v (.int .i64 0), .v (.int .i64 0), .v (.int .i64 0), .v (.int .i64 0), .v (.int .i64 0), .v (.int .i64 0), .v (.int .i64 0), .v (.int .i64 0), .v (.int .i64 0), .v (.int .i64 0), .v (.int .i64 0), .v (.int .i64 0), .v (.int .i64 0), .v (.int .i64 0), .v (.int .i64 0), .v (.int .i64 0), .v (.int .i64 0), .v (.int .i64 0), .v (.int .i64 0), .v (.int .i64 0), .v (.slice none 0 0), .v (.slice none 0 0)] from by kernel_rfl) ▸ zz_cw (⟨rfl, ⟨rfl, ⟨rfl, ⟨rfl, ⟨rfl, ⟨rfl, ⟨rfl, ⟨rfl, ⟨rfl, ⟨rfl, ⟨rfl, ⟨rfl, ⟨rfl, ⟨rfl, ⟨rfl, ⟨rfl, ⟨rfl, ⟨rfl, ⟨rfl, ⟨rfl, ⟨rfl, ⟨rfl, ⟨rfl, ⟨rfl, ⟨rfl, ⟨rfl, ⟨rfl, ⟨rfl, ⟨rfl, ⟨rfl, ⟨rfl, ⟨rfl, ⟨rfl, ⟨rfl, ⟨rfl, ⟨rfl, ⟨rfl, ⟨rfl, ⟨rfl, ⟨rfl, ⟨rfl, ⟨rfl, ⟨rfl, ⟨rfl, ⟨rfl, ⟨rfl, ⟨rfl, ⟨rfl, ⟨rfl, ⟨rfl, ⟨rfl, ⟨rfl, ⟨rfl, ⟨rfl, ⟨rfl, ⟨rfl, ⟨rfl, ⟨rfl, ⟨rfl, ⟨rfl, ⟨rfl, ⟨rfl, ⟨rfl, ⟨rfl, ⟨rfl, ⟨rfl, ⟨rfl, ⟨rfl, ⟨rfl, ⟨rfl, ⟨rfl, ⟨rfl, ⟨rfl, ⟨rfl, ⟨rfl, ⟨rfl, ⟨rfl, ⟨rfl, ⟨rfl, ⟨rfl, ⟨rfl, ⟨rfl, ⟨rfl, ⟨rfl, ⟨rfl, ⟨rfl, ⟨rfl, ⟨rfl, ⟨rfl, ⟨rfl, ⟨rfl, ⟨rfl, ⟨rfl, ⟨rfl, ⟨rfl, ⟨rfl, ⟨rfl, ⟨rfl, ⟨rfl, ⟨rfl, ⟨rfl, ⟨rfl, ⟨rfl, ⟨rfl, ⟨rfl, ⟨rfl, ⟨rfl, ⟨rfl, ⟨rfl, ⟨rfl, ⟨rfl, ⟨rfl, ⟨rfl, ⟨rfl, ⟨rfl, ⟨rfl, ⟨rfl, ⟨rfl, ⟨rfl, ⟨rfl, ⟨rfl, ⟨rfl, ⟨rfl, ⟨rfl, ⟨rfl, ⟨rfl, ⟨rfl, ⟨rfl, ⟨rfl, ⟨rfl, ⟨rfl, ⟨rfl, ⟨rfl, ⟨rfl, ⟨rfl, ⟨rfl, ⟨rfl, ⟨rfl, ⟨rfl, ⟨rfl, ⟨rfl, ⟨rfl, ⟨rfl, ⟨rfl, ⟨rfl, ⟨rfl, trivial⟩⟩⟩⟩⟩⟩⟩⟩⟩⟩⟩⟩⟩⟩⟩⟩⟩⟩⟩⟩⟩⟩⟩⟩⟩⟩⟩⟩⟩⟩⟩⟩⟩⟩⟩⟩⟩⟩⟩⟩⟩⟩⟩⟩⟩⟩⟩⟩⟩⟩⟩⟩⟩⟩⟩⟩⟩⟩⟩⟩⟩⟩⟩⟩⟩⟩⟩⟩⟩⟩⟩⟩⟩⟩⟩⟩⟩⟩⟩⟩⟩⟩⟩⟩⟩⟩⟩⟩⟩⟩⟩⟩⟩⟩⟩⟩⟩⟩⟩⟩⟩⟩⟩⟩⟩⟩⟩⟩⟩⟩⟩⟩⟩⟩⟩⟩⟩⟩⟩⟩⟩⟩⟩⟩⟩⟩⟩⟩⟩⟩⟩⟩⟩⟩⟩⟩⟩⟩⟩⟩⟩⟩⟩⟩⟩⟩), rfl⟩
theorem zok34 : Zok 34 (.agg [oi, oi, (.bool false), .agg [oi, (.arr 3 8 (Vector.replicate 8 (default : Int))), (.arr 2 8 (Vector.replicate 8 (default : Int))), (.arr 3 8 (Vector.replicate 8 (default : Int)))], oi, (.arr 2 8 (Vector.replicate 8 (default : Int))), (.arr 2 8 (Vector.replicate 8 (default : Int))), (.nil .slice), (.nil .slice), oi, (.arr 2 8 (Vector.replicate 8 (default : Int))), (.arr 28 8 (Vector.replicate 8 (default : List (GOp)))), (.arr 24 8 (Vector.replicate 8 (default : Vector (Int) 8))), (.arr 2 8 (Vector.replicate 8 (default : Int))), (.arr 2 8 (Vector.replicate 8 (default : Int))), (.arr 2 8 (Vector.replicate 8 (default : Int))), (.nil .slice), (.nil .slice)]) := ⟨ti34, rfl, rfl, (show ((.agg [oi, oi, (.bool false), .agg [oi, (.arr 3 8 (Vector.replicate 8 (default : Int))), (.arr 2 8 (Vector.replicate 8 (default : Int))), (.arr 3 8 (Vector.replicate 8 (default : Int)))], oi, (.arr 2 8 (Vector.replicate 8 (default : Int))), (.arr 2 8 (Vector.replicate 8 (default : Int))), (.nil .slice), (.nil .slice), oi, (.arr 2 8 (Vector.replicate 8 (default : Int))), (.arr 28 8 (Vector.replicate 8 (default : List (GOp)))), (.arr 24 8 (Vector.replicate 8 (default : Vector (Int) 8))), (.arr 2 8 (Vector.replicate 8 (default : Int))), (.arr 2 8 (Vector.replicate 8 (default : Int))), (.arr 2 8 (Vector.replicate 8 (default : Int))), (.nil .slice), (.nil .slice)] : TV τ).cells C) = [.v (.int .i64 0), .v (.int .i64 0), .v (.bool false), .v (.int .i64 0), .v (.int .i64 0), .v (.int .i64 0), .v (.int .i64 0), .v (.int .i64 0), .v (.int .i64 0), .v (.int .i64 0), .v (.int .i64 0), .v (.int .i64 0), .v (.int .i64 0), .v (.int .i64 0), .v (.int .i64 0), .v (.int .i64 0), .v (.int .i64 0), .v (.int .i64 0), .v (.int .i64 0), .v (.int .i64 0), .v (.int .i64 0), .v (.int .i64 0), .v (.int .i64 0), .v (.int .i64 0), .v (.int .i64 0), .v (.int .i64 0), .v (.int .i64 0), .v (.int .i64 0), .v (.int .i64 0), .v (.int .i64 0), .v (.int .i64 0), .v (.int .i64 0), .v (.int .i64 0), .v (.int .i64 0), .v (.int .i64 0), .v (.int .i64 0), .v (.int .i64 0), .v (.int .i64 0), .v (.int .i64 0), .v (.int .i64 0), .v (.int .i64 0), .v (.int .i64 0), .v (.int .i64 0), .v (.int .i64 0), .v (.int .i64 0), .v (.slice none 0 0), .v (.slice none 0 0), .v (.int .i64 0), .v (.int .i64 0), .v (.int .i64 0), .v (.int .i64 0), .v (.int .i64 0), .v (.int .i64 0), .v (.int .i64 0), .v (.int .i64 0), .v (.int .i64 0), .asl 8 [], .asl 8 [], .asl 8 [], .asl 8 [], .asl 8 [], .asl 8 [], .asl 8 [], .asl 8 [], .v (.int .i64 0), .v (.int .i64 0), .v (.int .i64 0), .v (.int .i64 0), .v (.int .i64 0), .v (.int .i64 0), .v (.int .i64 0), .v (.int .i64 0), .v (.int .i64 0), .v (.int .i64 0), .v (.int .i64 0), .v (.int .i64 0), .v (.int .i64 0), .v (.int .i64 0), .v (.int .i64 0), .v (.int .i64 0), .v (.int .i64 0), .v (.int .i64 0), .v (.int .i64 0), .v (.int .i64 0), .v (.int .i64 0), .v (.int .i64 0), .v (.int .i64 0), .v (.int .i64 0), .v (.int .i64 0), .v (.int .i64 0), .v (.int .i64 0), .v (.int .i64 0), .v (.int .i64 0), .v (.int .i64 0), .v (.int .i64 0), .v (.int .i64 0), .v (.int .i64 0), .v (.int .i64 0), .v (.int .i64 0), .v (.int .i64 0), .v (.int .i64 0), .v (.int .i64 0), .v (.int .i64 0), .v (.int .i64 0), .v (.int .i64 0), .v (.int .i64 0), .v (.int .i64 0), .v (.int .i64 0), .v (.int .i64 0), .v (.int .i64 0), .v (.int .i64 0), .v (.int .i64 0), .v (.int .i64 0), .v (.int .i64 0), .v (.int .i64 0), .v (.int .i64 0), .v (.int .i64 0), .v (.int .i64 0), .v (.int .i64 0), .v (.int .i64 0), .v (.int .i64 0), .v (.int .i64 0), .v (.int .i64 0), .v (.int .i64 0), .v (.int .i64 0), .v (.int .i64 0), .v (.int .i64 0), .v (.int .i64 0), .v (.int .i64 0), .v (.int .i64 0), .v (.int .i64 0), .v (.int .i64 0), .v (.int .i64 0), .v (.int .i64 0), .v (.int .i64 0), .v (.int .i64 0), .v (.int .i64 0), .v (.int .i64 0), .v (.int .i64 0), .v (.int .i64 0), .v (.int .i64 0), .v (.int .i64 0), .v (.int .i64 0), .v (.int .i64 0), .v (.int .i64 0), .v (.int .i64 0), .v (.int .i64 0), .v (.int .i64 0), .v (.int .i64 0), .v (.int .i64 0), .v (.int .i64 0), .v (.int .i64 0), .v (.slice none 0 0), .v (.slice none 0 0)] from by kernel_rfl) ▸ zz_cw (⟨rfl, ⟨rfl, ⟨rfl, ⟨rfl, ⟨rfl, ⟨rfl, ⟨rfl, ⟨rfl, ⟨rfl, ⟨rfl, ⟨rfl, ⟨rfl, ⟨rfl, ⟨rfl, ⟨rfl, ⟨rfl, ⟨rfl, ⟨rfl, ⟨rfl, ⟨rfl, ⟨rfl, ⟨rfl, ⟨rfl, ⟨rfl, ⟨rfl, ⟨rfl, ⟨rfl, ⟨rfl, ⟨rfl, ⟨rfl, ⟨rfl, ⟨rfl, ⟨rfl, ⟨rfl, ⟨rfl, ⟨rfl, ⟨rfl, ⟨rfl, ⟨rfl, ⟨rfl, ⟨rfl, ⟨rfl, ⟨rfl, ⟨rfl, ⟨rfl, ⟨rfl, ⟨rfl, ⟨rfl, ⟨rfl, ⟨rfl, ⟨rfl, ⟨rfl, ⟨rfl, ⟨rfl, ⟨rfl, ⟨rfl, ⟨rfl, ⟨rfl, ⟨rfl, ⟨rfl, ⟨rfl, ⟨rfl, ⟨rfl, ⟨rfl, ⟨rfl, ⟨rfl, ⟨rfl, ⟨rfl, ⟨rfl, ⟨rfl, ⟨rfl, ⟨rfl, ⟨rfl, ⟨rfl, ⟨rfl, ⟨rfl, ⟨rfl, ⟨rfl, ⟨rfl, ⟨rfl, ⟨rfl, ⟨rfl, ⟨rfl, ⟨rfl, ⟨rfl, ⟨rfl, ⟨rfl, ⟨rfl, ⟨rfl, ⟨rfl, ⟨rfl, ⟨rfl, ⟨rfl, ⟨rfl, ⟨rfl, ⟨rfl, ⟨rfl, ⟨rfl, ⟨rfl, ⟨rfl, ⟨rfl, ⟨rfl, ⟨rfl, ⟨rfl, ⟨rfl, ⟨rfl, ⟨rfl, ⟨rfl, ⟨rfl, ⟨rfl, ⟨rfl, ⟨rfl, ⟨rfl, ⟨rfl, ⟨rfl, ⟨rfl, ⟨rfl, ⟨rfl, ⟨rfl, ⟨rfl, ⟨rfl, ⟨rfl, ⟨rfl, ⟨rfl, ⟨rfl, ⟨rfl, ⟨rfl, ⟨rfl, ⟨rfl, ⟨rfl, ⟨rfl, ⟨rfl, ⟨rfl, ⟨rfl, ⟨rfl, ⟨rfl, ⟨rfl, ⟨rfl, ⟨rfl, ⟨rfl, ⟨rfl, ⟨rfl, ⟨rfl, ⟨rfl, ⟨rfl, ⟨rfl, trivial⟩⟩⟩⟩⟩⟩⟩⟩⟩⟩⟩⟩⟩⟩⟩⟩⟩⟩⟩⟩⟩⟩⟩⟩⟩⟩⟩⟩⟩⟩⟩⟩⟩⟩⟩⟩⟩⟩⟩⟩⟩⟩⟩⟩⟩⟩⟩⟩⟩⟩⟩⟩⟩⟩⟩⟩⟩⟩⟩⟩⟩⟩⟩⟩⟩⟩⟩⟩⟩⟩⟩⟩⟩⟩⟩⟩⟩⟩⟩⟩⟩⟩⟩⟩⟩⟩⟩⟩⟩⟩⟩⟩⟩⟩⟩⟩⟩⟩⟩⟩⟩⟩⟩⟩⟩⟩⟩⟩⟩⟩⟩⟩⟩⟩⟩⟩⟩⟩⟩⟩⟩⟩⟩⟩⟩⟩⟩⟩⟩⟩⟩⟩⟩⟩⟩⟩⟩⟩⟩⟩⟩⟩⟩⟩⟩⟩), rfl⟩
theorem zok40 : Zok 40 (.agg [oi, oi]) := ⟨ti40, rfl, rfl, CW.of_eq (by kernel_rfl), rfl⟩
theorem zok41 : Zok 41 (.agg [oi, oi]) := ⟨ti41, rfl, rfl, CW.of_eq (by kernel_rfl), rfl⟩
theorem zok42 : Zok 42 (.agg [.agg [oi, oi], oi, oi, oi, (.str []), (.str []), (.str [])]) := ⟨ti42, rfl, rfl, CW.of_eq (by kernel_rfl), rfl⟩
theorem zok43 : Zok 43 (.agg [.agg [oi, oi], oi, oi, oi, (.str []), (.str []), (.str [])]) := ⟨ti43, rfl, rfl, CW.of_eq (by kernel_rfl), rfl⟩
theorem zok44 : Zok 44 (.agg [oi, oi]) := ⟨ti44, rfl, rfl, CW.of_eq (by kernel_rfl), rfl⟩
theorem zok45 : Zok 45 (.agg [oi, oi]) := ⟨ti45, rfl, rfl, CW.of_eq (by kernel_rfl), rfl⟩
theorem zok46 : Zok 46 (.agg [oi, oi]) := ⟨ti46, rfl, rfl, CW.of_eq (by kernel_rfl), rfl⟩
theorem zok47 : Zok 47 (.agg [oi, oi]) := ⟨ti47, rfl, rfl, CW.of_eq (by kernel_rfl), rfl⟩
theorem zok48 : Zok 48 (.nil .slice) := ⟨ti48, rfl, rfl, CW.of_eq (by kernel_rfl), rfl⟩
theorem zok49 : Zok 49 (.nil .slice) := ⟨ti49, rfl, rfl, CW.of_eq (by kernel_rfl), rfl⟩
theorem zok50 : Zok 50 (.agg [oi, oi, oi, (.nil .slice)]) := ⟨ti50, rfl, rfl, CW.of_eq (by kernel_rfl), rfl⟩
theorem zok51 : Zok 51 (.agg [oi, oi, oi, (.nil .slice)]) := ⟨ti51, rfl, rfl, CW.of_eq (by kernel_rfl), rfl⟩
theorem zok52 : Zok 52 (.agg [oi, oi, oi, .agg [.agg [oi, oi], oi, oi, oi, (.str []), (.str []), (.str [])], oi, oi, (.nil .slice), .agg [oi, (.arr 3 8 (Vector.replicate 8 (default : Int))), (.arr 2 8 (Vector.replicate 8 (default : Int))), (.arr 3 8 (Vector.replicate 8 (default : Int)))], oi, (.arr 2 8 (Vector.replicate 8 (default : Int))), oi, .agg [oi, oi, oi, (.nil .slice)], oi, oi, oi]) := ⟨ti52, rfl, rfl, CW.of_eq (by kernel_rfl), rfl⟩
theorem zok53 : Zok 53 (.agg [oi, oi, oi, .agg [.agg [oi, oi], oi, oi, oi, (.str []), (.str []), (.str [])], oi, oi, (.nil .slice), .agg [oi, (.arr 3 8 (Vector.replicate 8 (default : Int))), (.arr 2 8 (Vector.replicate 8 (default : Int))), (.arr 3 8 (Vector.replicate 8 (default : Int)))], oi, (.arr 2 8 (Vector.replicate 8 (default : Int))), oi, .agg [oi, oi, oi, (.nil .slice)], oi, oi, oi]) := ⟨ti53, rfl, rfl, CW.of_eq (by kernel_rfl), rfl⟩
theorem zok54 : Zok 54 (.agg [oi, .agg [oi, oi], .agg [oi, oi], .agg [oi, oi], oi, (.nil .slice), .agg [oi, oi, oi, .agg [.agg [oi, oi], oi, oi, oi, (.str []), (.str []), (.str [])], oi, oi, (.nil .slice), .agg [oi, (.arr 3 8 (Vector.replicate 8 (default : Int))), (.arr 2 8 (Vector.replicate 8 (default : Int))), (.arr 3 8 (Vector.replicate 8 (default : Int)))], oi, (.arr 2 8 (Vector.replicate 8 (default : Int))), oi, .agg [oi, oi, oi, (.nil .slice)], oi, oi, oi], oi, (.arr 2 8 (Vector.replicate 8 (default : Int))), oi, oi, (.nil .slice), .agg [oi, (.arr 3 8 (Vector.replicate 8 (default : Int))), (.arr 2 8 (Vector.replicate 8 (default : Int))), (.arr 3 8 (Vector.replicate 8 (default : Int)))], .agg [oi, oi, oi, (.nil .slice)]]) := ⟨ti54, rfl, rfl, CW.of_eq (by kernel_rfl), rfl⟩
theorem zok55 : Zok 55 (.agg [oi, .agg [oi, oi], .agg [oi, oi], .agg [oi, oi], oi, (.nil .slice), .agg [oi, oi, oi, .agg [.agg [oi, oi], oi, oi, oi, (.str []), (.str []), (.str [])], oi, oi, (.nil .slice), .agg [oi, (.arr 3 8 (Vector.replicate 8 (default : Int))), (.arr 2 8 (Vector.replicate 8 (default : Int))), (.arr 3 8 (Vector.replicate 8 (default : Int)))], oi, (.arr 2 8 (Vector.replicate 8 (default : Int))), oi, .agg [oi, oi, oi, (.nil .slice)], oi, oi, oi], oi, (.arr 2 8 (Vector.replicate 8 (default : Int))), oi, oi, (.nil .slice), .agg [oi, (.arr 3 8 (Vector.replicate 8 (default : Int))), (.arr 2 8 (Vector.replicate 8 (default : Int))), (.arr 3 8 (Vector.replicate 8 (default : Int)))], .agg [oi, oi, oi, (.nil .slice)]]) := ⟨ti55, rfl, rfl, CW.of_eq (by kernel_rfl), rfl⟩
theorem zok56 : Zok 56 (oi) := ⟨ti56, rfl, rfl, CW.of_eq (by kernel_rfl), rfl⟩
theorem zok60 : Zok 60 (.nil .slice) := ⟨ti60, rfl, rfl, CW.of_eq (by kernel_rfl), rfl⟩
theorem zok65 : Zok 65 (.nil .slice) := ⟨ti65, rfl, rfl, CW.of_eq (by kernel_rfl), rfl⟩
theorem zok96 : Zok 96 (.nil .slice) := ⟨ti96, rfl, rfl, CW.of_eq (by kernel_rfl), rfl⟩
theorem zok97 : Zok 97 (.agg [oi, oi, (.str []), (.nil .slice)]) := ⟨ti97, rfl, rfl, CW.of_eq (by kernel_rfl), rfl⟩
theorem zok98 : Zok 98 (.agg [oi, oi, (.str []), (.nil .slice)]) := ⟨ti98, rfl, rfl, CW.of_eq (by kernel_rfl), rfl⟩
theorem zok100 : Zok 100 (.agg [oi, .agg [oi, oi], .agg [oi, oi, oi, .agg [.agg [oi, oi], oi, oi, oi, (.str []), (.str []), (.str [])], oi, oi, (.nil .slice), .agg [oi, (.arr 3 8 (Vector.replicate 8 (default : Int))), (.arr 2 8 (Vector.replicate 8 (default : Int))), (.arr 3 8 (Vector.replicate 8 (default : Int)))], oi, (.arr 2 8 (Vector.replicate 8 (default : Int))), oi, .agg [oi, oi, oi, (.nil .slice)], oi, oi, oi]]) := ⟨ti100, rfl, rfl, CW.of_eq (by kernel_rfl), rfl⟩
theorem zok101 : Zok 101 (.agg [oi, .agg [oi, oi], .agg [oi, oi, oi, .agg [.agg [oi, oi], oi, oi, oi, (.str []), (.str []), (.str [])], oi, oi, (.nil .slice), .agg [oi, (.arr 3 8 (Vector.replicate 8 (default : Int))), (.arr 2 8 (Vector.replicate 8 (default : Int))), (.arr 3 8 (Vector.replicate 8 (default : Int)))], oi, (.arr 2 8 (Vector.replicate 8 (default : Int))), oi, .agg [oi, oi, oi, (.nil .slice)], oi, oi, oi]]) := ⟨ti101, rfl, rfl, CW.of_eq (by kernel_rfl), rfl⟩
theorem zok102 : Zok 102 (.nil .slice) := ⟨ti102, rfl, rfl, CW.of_eq (by kernel_rfl), rfl⟩
theorem zok107 : Zok 107 (.nil .slice) := ⟨ti107, rfl, rfl, CW.of_eq (by kernel_rfl), rfl⟩
theorem zok115 : Zok 115 (.nil .slice) := ⟨ti115, rfl, rfl, CW.of_eq (by kernel_rfl), rfl⟩
theorem zok116 : Zok 116 (.nil .ptr) := ⟨ti116, rfl, rfl, CW.of_eq (by kernel_rfl), rfl⟩
theorem zok126 : Zok 126 (.nil .slice) := ⟨ti126, rfl, rfl, CW.of_eq (by kernel_rfl), rfl⟩
theorem zok138 : Zok 138 (.nil .slice) := ⟨ti138, rfl, rfl, CW.of_eq (by kernel_rfl), rfl⟩
theorem zok150 : Zok 150 (.nil .slice) := ⟨ti150, rfl, rfl, CW.of_eq (by kernel_rfl), rfl⟩
theorem zok151 : Zok 151 (.agg [(.nil .slice), (.nil .slice)]) := ⟨ti151, rfl, rfl, CW.of_eq (by kernel_rfl), rfl⟩
theorem zok152 : Zok 152 (.agg [(.nil .slice), (.nil .slice)]) := ⟨ti152, rfl, rfl, CW.of_eq (by kernel_rfl), rfl⟩
theorem zok156 : Zok 156 (.agg [oi, .agg [oi, oi], oi]) := ⟨ti156, rfl, rfl, CW.of_eq (by kernel_rfl), rfl⟩
theorem zok157 : Zok 157 (.agg [oi, .agg [oi, oi], oi]) := ⟨ti157, rfl, rfl, CW.of_eq (by kernel_rfl), rfl⟩
theorem zok158 : Zok 158 (.agg [oi, oi, .agg [oi, .agg [oi, oi], oi]]) := ⟨ti158, rfl, rfl, CW.of_eq (by kernel_rfl), rfl⟩
theorem zok159 : Zok 159 (.agg [oi, oi, .agg [oi, .agg [oi, oi], oi]]) := ⟨ti159, rfl, rfl, CW.of_eq (by kernel_rfl), rfl⟩
theorem zok168 : Zok 168 (.agg [(.str []), (.str [])]) := ⟨ti168, rfl, rfl, CW.of_eq (by kernel_rfl), rfl⟩
theorem zok169 : Zok 169 (.agg [(.str []), (.str [])]) := ⟨ti169, rfl, rfl, CW.of_eq (by kernel_rfl), rfl⟩
theorem zok175 : Zok 175 (.int .u64 0) := ⟨ti175, rfl, rfl, CW.of_eq (by kernel_rfl), rfl⟩
theorem zok176 : Zok 176 (.int .u32 0) := ⟨ti176, rfl, rfl, CW.of_eq (by kernel_rfl), rfl⟩
noncomputable def D0 : TEnv τ := ⟨E, C, zeroT⟩
theorem zeroOk : ∀ t x, zeroT t = some x → ∃ i, E.ty t = some i ∧ x.ok = true ∧ CW i.zero (x.cells C) ∧ x.isAgg = i.agg := by
  intro t x h
  unfold zeroT at h
  split at h <;> first
    | (cases h; first | exact zok2 | exact zok3 | exact zok4 | exact zok5 | exact zok9 | exact zok12 | exact zok21 | exact zok22 | exact zok23 | exact zok24 | exact zok25 | exact zok26 | exact zok27 | exact zok28 | exact zok29 | exact zok30 | exact zok31 | exact zok32 | exact zok33 | exact zok34 | exact zok40 | exact zok41 | exact zok42 | exact zok43 | exact zok44 | exact zok45 | exact zok46 | exact zok47 | exact zok48 | exact zok49 | exact zok50 | exact zok51 | exact zok52 | exact zok53 | exact zok54 | exact zok55 | exact zok56 | exact zok60 | exact zok65 | exact zok96 | exact zok97 | exact zok98 | exact zok100 | exact zok101 | exact zok102 | exact zok107 | exact zok115 | exact zok116 | exact zok126 | exact zok138 | exact zok150 | exact zok151 | exact zok152 | exact zok156 | exact zok157 | exact zok158 | exact zok159 | exact zok168 | exact zok169 | exact zok175 | exact zok176)
    | cases h
theorem d0Ok : D0.Ok := ⟨eOk, eEq, cOk, zeroOk⟩
end Go.Proofs.Ytekpjhhbmjcbmaa
