/-
What is read is what was written: parts,operations,lists,entries.
-/
import Derived.Test.YteinehkdjkobnaaGreatqVa
set_option linter.unusedVariables false
set_option linter.unusedSimpArgs false
namespace Go.Proofs.YteinehkdjkobnaaGreat
open Go Go.Ev
structure SmOk (g : Int → Int) : Prop where
  inb : ∀ n,-1 ≤ g n → g n = n
  of : ∀ n,-1 ≤ n ∧ n ≤ 2147483647 → g n = n
theorem SmOk.h7 {g : Int → Int} (h : SmOk g) : ∀ n,-1 ≤ g n ∧ g n ≤ 7 → g n = n := fun n hn => h.inb n hn.1
section
variable {N : Nat} {B : List Int} {s : St} {g : Int → Int}
section
variable (a2 a3 : Int) (a4 : GOp) (a5 a6 : Int) (a7 : List GOp) (a8 : z7) (a9 : Int) (a10 : Vector Int 8) (a11 : Int) (a12 : GPart) (a13 a14 a15 : Int)
end
end
end Go.Proofs.YteinehkdjkobnaaGreat
