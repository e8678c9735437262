/-
The record layer's writer: what it puts, part by part, and whether it fits.
-/
import Derived.Test.YteinehkdjkobnaaqWa
set_option linter.unusedVariables false
set_option linter.unusedSimpArgs false
namespace Go.Proofs.Yteinehkdjkobnaa
open Go Go.Ev
def put1 (s : Int × List Int) (x : List Int) : Int × List Int := if s.2.length + x.length ≤ 1048576 then (s.1, s.2 ++ x) else (if s.1 = 0 then 3 else s.1, s.2)
def wr (e : Int) (w : List Int) (cs : List (List Int)) : Int × Bool × List Int := ((cs.foldl put1 (e, w)).1, true, (cs.foldl put1 (e, w)).2)
def MayOp (o : GOp) : Prop := (0 ≤ o.Stamp.Time ∧ o.Stamp.Time ≤ 1099511627776) ∧ (0 ≤ o.Stamp.Site ∧ o.Stamp.Site < 8) ∧ (1 ≤ o.Kind ∧ o.Kind ≤ 3) ∧ (0 ≤ o.Node ∧ o.Node ≤ 1125899906842624) ∧ (0 ≤ o.Parent ∧ o.Parent ≤ 1125899906842624) ∧
  o.Name.length ≤ 255 ∧ o.Key.length ≤ 255 ∧ o.Value.length ≤ 255
instance (o : GOp) : Decidable (MayOp o) := by unfold MayOp; infer_instance
end Go.Proofs.Yteinehkdjkobnaa
