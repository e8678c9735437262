/-
The law NetSpoils.
-/
import Derived.Test.YtddpmkmgbdedlaaGreatqPc
set_option linter.unusedVariables false
set_option linter.unusedSimpArgs false
set_option maxRecDepth 100000
namespace Go.Proofs.YtddpmkmgbdedlaaGreat
open Go Go.Ev
section
variable {N:Nat}
theorem aCL (hN:300≤N):∃ ms,yL N []=some (true,ms):=by
 have h:(yL N []).map (·.1)=some true:=by
  obtain⟨k,rfl⟩:∃ k,N=k+300:=⟨N - 300,by omega⟩
  kernel_rfl
 cases e:yL N [] with
 |none=>rw[e]at h;cases h
 |some r =>
  rw[e]at h
  obtain⟨x,ms⟩:=r
  simp at h
  subst h
  exact⟨ms,rfl⟩
theorem aJs (ms:Oo):Q ms [] 0 []:=⟨Nat.le_refl _,⟨by simp,by simp,rfl⟩,by omega,by simp⟩
end
end Go.Proofs.YtddpmkmgbdedlaaGreat
