/-
Which operations may be: the program's answer is the document's.
-/
import Derived.Test.YtekpjhhbmjcbmaaqFa
import Derived.Test.YtekpjhhbmjcbmaaqTvT
import Derived.KernelRfl
set_option linter.unusedVariables false
set_option linter.unusedSimpArgs false
namespace Go.Proofs.Ytekpjhhbmjcbmaa
open Go Go.Ev
section
variable {N : Nat}
end
end Go.Proofs.Ytekpjhhbmjcbmaa
