/-
Plain laws of wire, turned to this seat by wip/tools/ren.py.
-/
import Derived.Test.YteinehkdjkobnaaqFb
import Derived.Laws.BitsAllLaws
set_option linter.unusedVariables false
set_option linter.unusedSimpArgs false
namespace Go.Proofs.Yteinehkdjkobnaa
open Go Go.Ev
def byteR (b : Int) : Prop := 0 ≤ b ∧ b ≤ 255
theorem F43_eq {N : Nat} {l : List Int} (h : l.length ≤ 70368744177664) : Fslices_Clone_byte N l = some l := by
  unfold Fslices_Clone_byte Fslices_Clone_byte_c35
  rw [lenB_of (by omega)]
  rfl
section
variable {N : Nat} {b : List Int}
end
theorem bytesI_strI {l : List Int} (h : ∀ x ∈ l, byteR x) : bytesI (strI l) = l := by
  induction l with
  | nil => rfl
  | cons b l ih =>
    have hb := h b (by simp)
    have := hb.1; have := hb.2
    have e : ((UInt8.ofNat b.toNat).toNat : Int) = b := by
      rw [UInt8.toNat_ofNat']
      omega
    have ih' := ih fun x hx => h x (by simp [hx])
    simp only [bytesI, strI, List.map_cons, List.map_map] at ih' ⊢
    rw [ih', e]
section
variable {N : Nat} {w : List Int}
end
end Go.Proofs.Yteinehkdjkobnaa
