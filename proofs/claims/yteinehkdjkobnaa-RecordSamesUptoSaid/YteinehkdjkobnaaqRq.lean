/-
How many rounds an entry's and a message's loops need.
-/
import Derived.Test.YteinehkdjkobnaaqRp
import Derived.Test.YteinehkdjkobnaaqRd
set_option linter.unusedVariables false
set_option linter.unusedSimpArgs false
namespace Go.Proofs.Yteinehkdjkobnaa
open Go Go.Ev
def sizeM (m : GMsg) : Nat := m.List_.length + (m.List_.map fun x => x.Entry.Ops.length).sum + m.Entry.Ops.length + m.Ops.length
theorem room_entry {N : Nat} {e : GEntry} (h : wf36 e) (hN : e.Ops.length + 60 ≤ N) : e.Ops.length + 20 ≤ N ∧ e.Ops.length ≤ 9223372036854775807 ∧ byt e.Part.Data := by
  obtain ⟨_, _, _, _, _, _, h7, _, _, _, _, h12, _⟩ := h
  exact ⟨by omega, h7.1, h12.2.2.2.1.2⟩
theorem mem_sum {α : Type} (f : α → Nat) : ∀ {l : List α} {x : α}, x ∈ l → f x ≤ (l.map f).sum
  | y :: l, x, h => by
    rcases List.mem_cons.1 h with rfl | h
    · simp
    · have := mem_sum f h; simp only [List.map_cons, List.sum_cons]; omega
theorem roomM_of {N : Nat} {m : GMsg} (h : wf50 m) (hN : sizeM m + 60 ≤ N) : roomM N m := by
  obtain ⟨_, _, _, _, _, h6, h7, _, _, _, _, h12, _, h14, _⟩ := h
  unfold sizeM at hN
  refine ⟨⟨by omega, h6.1, fun x hx => room_entry (h6.2 x hx).2.2.1 ?_⟩, room_entry h7 (by omega), ⟨by omega, h12.1⟩, h14.2.2.2.1.2⟩
  have := mem_sum (fun x : GSlotted => x.Entry.Ops.length) hx
  omega
end Go.Proofs.Yteinehkdjkobnaa
