/-
States of few bytes have short lists.
-/
import Derived.Test.YtekpjhhbmjcbmaaqQc
set_option linter.unusedVariables false
set_option linter.unusedSimpArgs false
namespace Go.Proofs.Ytekpjhhbmjcbmaa
open Go Go.Ev
theorem le_sum_mem {α : Type} (f : α → Nat) {x : α} : ∀ {l : List α}, x ∈ l → f x ≤ (l.map f).sum
  | y :: l, h => by
    rcases List.mem_cons.1 h with rfl | h
    · simp
    · have := le_sum_mem f h; simp; omega
theorem smallS_of {s : GSnap} (h : bulk34 s ≤ 1048576) : SmallS s := by
  unfold bulk34 at h
  refine ⟨?_, fun x hx => ?_, ?_, fun o ho => ?_, ?_, ?_, fun x hx => ?_⟩
  · have := len_le_sum' (f := bulk98) (fun x => by unfold bulk98; omega) s.Base
    unfold bulk27 at h; omega
  · have h1 := le_sum_mem bulk98 hx
    have h2 := len_le_sum' (f := bulk169) (fun x => by unfold bulk169; omega) x.Attrs
    unfold bulk98 bulk96 at h1
    unfold bulk27 bulk98 bulk96 at h; omega
  · have := len_le_sum' (f := bulk43) (fun x => by unfold bulk43; omega) s.Log
    unfold bulk28 at h; omega
  · have h1 := le_sum_mem bulk28 (vget_mem s.Kept default ho)
    have h2 := len_le_sum' (f := bulk43) (fun x => by unfold bulk43; omega) (vget s.Kept o default)
    unfold bulk28 at h1
    unfold bulk29 bulk28 at h; omega
  · have := len_le_sum' (f := bulk159) (fun x => by unfold bulk159; omega) s.Rows
    unfold bulk31 at h; omega
  · have := len_le_sum' (f := bulk51) (fun x => by unfold bulk51; omega) s.Parts
    unfold bulk32 at h; omega
  · have h1 := le_sum_mem bulk51 hx
    have h2 := len_le_sum' (f := bulk5) (fun x => by unfold bulk5; omega) x.Data
    unfold bulk51 bulk49 at h1
    unfold bulk32 bulk51 bulk49 at h; omega
end Go.Proofs.Ytekpjhhbmjcbmaa
