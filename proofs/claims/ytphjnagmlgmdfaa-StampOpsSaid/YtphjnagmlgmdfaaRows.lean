/-
  No cell of these rows narrows 'for every input' (looked for: loops, veiled, ifaces, maps, wideKeys, modest, calm, conditions, laid).
  DERIVED. THE GIVEN ROWS OF THIS SEAT. 7 by the template 'for every input the law returns true; each argument reads behind the call as it read before'; 0 by the template 'total and deterministic' (their statements: YtphjnagmlgmdfaaTotals.lean).
  GIVEN WITH THE SEED: the statements are not yours to turn. If you find one false, say at which input.
  Laid BY PROGRAM, IN A SANDBOX (cutbox-rows.mjs): the forced cells as the released guide's own fill.sh prints them over the translation 08a65e1ab3a60363… (all of the seat's roots in one cut). By AI agents, Wed Nov 11 2026. No macro, syntax, notation, axiom, sorry.
-/
import Derived.Test.YtphjnagmlgmdfaaChecked
import GoSem.Claim
import GoSem.ClaimJoined
import GoSem.ClaimMapViews
import Derived.JoinedTies
import Derived.KernelRfl
namespace Go.Proofs.Ytphjnagmlgmdfaa
/- THE CELL 'sum', in the pinned program and in every row, IS THE sha256 OF THE DUMP (.gsa) THAT YtphjnagmlgmdfaaProg.lean LOADS. Nothing in Lean hashes anything: it is a label: what it is worth is what the hold of that sum in a sandbox is worth. -/
noncomputable def Try.pinned : Pinned := { name := "ytphjnagmlgmdfaa", sum := "08a65e1ab3a60363c93d2827f25a89f36fb7da79c123004dc77dccfda587337f", checked := Try.checked }
namespace Rows
def none {H : Type} : Left H := { results := [], args := [] }

/-- 'orchardlaw11.StampNodes': WHATEVER THE INPUT: true; the input reads as it did. -/
def stampNodesSpec : ChangeSpec := { name := "stampNodes", fn := fun _ => fun
  | [d1, d2] => { results := [.lit (.bool true)], args := [d1, d2] }
  | _ => none }
def stampNodesRow : OpenClaim := { program := "ytphjnagmlgmdfaa", sum := "08a65e1ab3a60363c93d2827f25a89f36fb7da79c123004dc77dccfda587337f", func := "orchard/orchardlaw11.StampNodes", spec := "stampNodes", apart := false }
def StampNodesSaid : Prop := stampNodesRow.holds Try.pinned (OpenSpec.ofChange stampNodesSpec)

/-- ITS FALSE NEIGHBOUR: 'it returns false'. Refute it at one input. -/
def stampNodesWrong : ChangeSpec := { name := "stampNodes", fn := fun _ => fun
  | [d1, d2] => { results := [.lit (.bool false)], args := [d1, d2] }
  | _ => none }
def StampNodesWrongFalsely : Prop := stampNodesRow.holds Try.pinned (OpenSpec.ofChange stampNodesWrong)

/-- 'orchardlaw11.StampJoins': WHATEVER THE INPUT: true; the input reads as it did. -/
def stampJoinsSpec : ChangeSpec := { name := "stampJoins", fn := fun _ => fun
  | [d1, d2] => { results := [.lit (.bool true)], args := [d1, d2] }
  | _ => none }
def stampJoinsRow : OpenClaim := { program := "ytphjnagmlgmdfaa", sum := "08a65e1ab3a60363c93d2827f25a89f36fb7da79c123004dc77dccfda587337f", func := "orchard/orchardlaw11.StampJoins", spec := "stampJoins", unfollowed := true, recurses := true, apart := false }
def StampJoinsSaid : Prop := stampJoinsRow.holds Try.pinned (OpenSpec.ofChange stampJoinsSpec)

/-- ITS FALSE NEIGHBOUR: 'it returns false'. Refute it at one input. -/
def stampJoinsWrong : ChangeSpec := { name := "stampJoins", fn := fun _ => fun
  | [d1, d2] => { results := [.lit (.bool false)], args := [d1, d2] }
  | _ => none }
def StampJoinsWrongFalsely : Prop := stampJoinsRow.holds Try.pinned (OpenSpec.ofChange stampJoinsWrong)

/-- 'orchardlaw11.StampLattice': WHATEVER THE INPUT: true; the input reads as it did. -/
def stampLatticeSpec : ChangeSpec := { name := "stampLattice", fn := fun _ => fun
  | [d1, d2, d3] => { results := [.lit (.bool true)], args := [d1, d2, d3] }
  | _ => none }
def stampLatticeRow : OpenClaim := { program := "ytphjnagmlgmdfaa", sum := "08a65e1ab3a60363c93d2827f25a89f36fb7da79c123004dc77dccfda587337f", func := "orchard/orchardlaw11.StampLattice", spec := "stampLattice", unfollowed := true, recurses := true, apart := false }
def StampLatticeSaid : Prop := stampLatticeRow.holds Try.pinned (OpenSpec.ofChange stampLatticeSpec)

/-- ITS FALSE NEIGHBOUR: 'it returns false'. Refute it at one input. -/
def stampLatticeWrong : ChangeSpec := { name := "stampLattice", fn := fun _ => fun
  | [d1, d2, d3] => { results := [.lit (.bool false)], args := [d1, d2, d3] }
  | _ => none }
def StampLatticeWrongFalsely : Prop := stampLatticeRow.holds Try.pinned (OpenSpec.ofChange stampLatticeWrong)

/-- 'orchardlaw11.StampVectors': WHATEVER THE INPUT: true; the input reads as it did. -/
def stampVectorsSpec : ChangeSpec := { name := "stampVectors", fn := fun _ => fun
  | [d1, d2, d3] => { results := [.lit (.bool true)], args := [d1, d2, d3] }
  | _ => none }
def stampVectorsRow : OpenClaim := { program := "ytphjnagmlgmdfaa", sum := "08a65e1ab3a60363c93d2827f25a89f36fb7da79c123004dc77dccfda587337f", func := "orchard/orchardlaw11.StampVectors", spec := "stampVectors", unfollowed := true, recurses := true, apart := false }
def StampVectorsSaid : Prop := stampVectorsRow.holds Try.pinned (OpenSpec.ofChange stampVectorsSpec)

/-- ITS FALSE NEIGHBOUR: 'it returns false'. Refute it at one input. -/
def stampVectorsWrong : ChangeSpec := { name := "stampVectors", fn := fun _ => fun
  | [d1, d2, d3] => { results := [.lit (.bool false)], args := [d1, d2, d3] }
  | _ => none }
def StampVectorsWrongFalsely : Prop := stampVectorsRow.holds Try.pinned (OpenSpec.ofChange stampVectorsWrong)

/-- 'orchardlaw11.StampRises': WHATEVER THE INPUT: true; the input reads as it did. -/
def stampRisesSpec : ChangeSpec := { name := "stampRises", fn := fun _ => fun
  | [d1, d2] => { results := [.lit (.bool true)], args := [d1, d2] }
  | _ => none }
def stampRisesRow : OpenClaim := { program := "ytphjnagmlgmdfaa", sum := "08a65e1ab3a60363c93d2827f25a89f36fb7da79c123004dc77dccfda587337f", func := "orchard/orchardlaw11.StampRises", spec := "stampRises", apart := false }
def StampRisesSaid : Prop := stampRisesRow.holds Try.pinned (OpenSpec.ofChange stampRisesSpec)

/-- ITS FALSE NEIGHBOUR: 'it returns false'. Refute it at one input. -/
def stampRisesWrong : ChangeSpec := { name := "stampRises", fn := fun _ => fun
  | [d1, d2] => { results := [.lit (.bool false)], args := [d1, d2] }
  | _ => none }
def StampRisesWrongFalsely : Prop := stampRisesRow.holds Try.pinned (OpenSpec.ofChange stampRisesWrong)

/-- 'orchardlaw11.StampOrders': WHATEVER THE INPUT: true; the input reads as it did. -/
def stampOrdersSpec : ChangeSpec := { name := "stampOrders", fn := fun _ => fun
  | [d1, d2, d3] => { results := [.lit (.bool true)], args := [d1, d2, d3] }
  | _ => none }
def stampOrdersRow : OpenClaim := { program := "ytphjnagmlgmdfaa", sum := "08a65e1ab3a60363c93d2827f25a89f36fb7da79c123004dc77dccfda587337f", func := "orchard/orchardlaw11.StampOrders", spec := "stampOrders", apart := false }
def StampOrdersSaid : Prop := stampOrdersRow.holds Try.pinned (OpenSpec.ofChange stampOrdersSpec)

/-- ITS FALSE NEIGHBOUR: 'it returns false'. Refute it at one input. -/
def stampOrdersWrong : ChangeSpec := { name := "stampOrders", fn := fun _ => fun
  | [d1, d2, d3] => { results := [.lit (.bool false)], args := [d1, d2, d3] }
  | _ => none }
def StampOrdersWrongFalsely : Prop := stampOrdersRow.holds Try.pinned (OpenSpec.ofChange stampOrdersWrong)

/-- 'orchardlaw11.StampOps': WHATEVER THE INPUT: true; the input reads as it did. -/
def stampOpsSpec : ChangeSpec := { name := "stampOps", fn := fun _ => fun
  | [d] => { results := [.lit (.bool true)], args := [d] }
  | _ => none }
def stampOpsRow : OpenClaim := { program := "ytphjnagmlgmdfaa", sum := "08a65e1ab3a60363c93d2827f25a89f36fb7da79c123004dc77dccfda587337f", func := "orchard/orchardlaw11.StampOps", spec := "stampOps", inPlace := ["internal/bytealg.IndexByteString", "internal/bytealg.IndexString"], named := ["internal/bytealg.MaxLen"], apart := false }
def StampOpsSaid : Prop := stampOpsRow.holds Try.pinned (OpenSpec.ofChange stampOpsSpec)

/-- ITS FALSE NEIGHBOUR: 'it returns false'. Refute it at one input. -/
def stampOpsWrong : ChangeSpec := { name := "stampOps", fn := fun _ => fun
  | [d] => { results := [.lit (.bool false)], args := [d] }
  | _ => none }
def StampOpsWrongFalsely : Prop := stampOpsRow.holds Try.pinned (OpenSpec.ofChange stampOpsWrong)

/- THE SECOND FORM. 'bulk': how many values and letters a reading holds, each counted each time it is reached (what is shared counts as often as it is met; a slice's spare places count too). A statement '..UptoSaid' is the law's where the arguments, and the package variables that the reading takes, are together of bulk at most 1048576: NARROWER than '..Said'. Prove '..Said' where nothing that the law and all that it calls make is longer than what came in: it says more and counts as full. Else prove '..UptoSaid'. A law counts once. -/
mutual
def uptoBulk {H : Type} : DataW H → Nat
  | .lit (.string bytes) => bytes.length + 1
  | .lit _ => 1
  | .nil => 1
  | .ptr d => uptoBulk d + 1
  | .slice elems spare => uptoBulkAll elems + uptoBulkAll spare + 1
  | .agg parts => uptoBulkAll parts + 1
  | .iface _ d => uptoBulk d + 1
  | .map entries => uptoBulkEntries entries + 1
  | .held _ => 1
def uptoBulkAll {H : Type} : List (DataW H) → Nat
  | [] => 0
  | d :: r => uptoBulk d + uptoBulkAll r
def uptoBulkEntries {H : Type} : List (Lit × DataW H) → Nat
  | [] => 0
  | x :: r => uptoBulkEntry x + uptoBulkEntries r
def uptoBulkEntry {H : Type} : Lit × DataW H → Nat
  | (.string bytes, d) => bytes.length + uptoBulk d + 1
  | (_, d) => uptoBulk d + 1
 end
def uptoSmall : (H : Type) → List (DataW H) → Bool := fun _ ds => decide (uptoBulkAll ds ≤ 1048576)
def OpenSpec.upto (s : _root_.Go.ChangeSpec) : _root_.Go.OpenSpec := { _root_.Go.OpenSpec.ofChange s with cond := some uptoSmall }

/-- 'orchardlaw11.StampNodes', WHERE WHAT IT READS IS OF BULK AT MOST 1048576: true; the input reads as it did. -/
def stampNodesUptoRow : OpenClaim := { program := "ytphjnagmlgmdfaa", sum := "08a65e1ab3a60363c93d2827f25a89f36fb7da79c123004dc77dccfda587337f", func := "orchard/orchardlaw11.StampNodes", spec := "stampNodes", apart := false, narrowed := true }
def StampNodesUptoSaid : Prop := stampNodesUptoRow.holds Try.pinned (OpenSpec.upto stampNodesSpec)

/-- 'orchardlaw11.StampJoins', WHERE WHAT IT READS IS OF BULK AT MOST 1048576: true; the input reads as it did. -/
def stampJoinsUptoRow : OpenClaim := { program := "ytphjnagmlgmdfaa", sum := "08a65e1ab3a60363c93d2827f25a89f36fb7da79c123004dc77dccfda587337f", func := "orchard/orchardlaw11.StampJoins", spec := "stampJoins", unfollowed := true, recurses := true, apart := false, narrowed := true }
def StampJoinsUptoSaid : Prop := stampJoinsUptoRow.holds Try.pinned (OpenSpec.upto stampJoinsSpec)

/-- 'orchardlaw11.StampLattice', WHERE WHAT IT READS IS OF BULK AT MOST 1048576: true; the input reads as it did. -/
def stampLatticeUptoRow : OpenClaim := { program := "ytphjnagmlgmdfaa", sum := "08a65e1ab3a60363c93d2827f25a89f36fb7da79c123004dc77dccfda587337f", func := "orchard/orchardlaw11.StampLattice", spec := "stampLattice", unfollowed := true, recurses := true, apart := false, narrowed := true }
def StampLatticeUptoSaid : Prop := stampLatticeUptoRow.holds Try.pinned (OpenSpec.upto stampLatticeSpec)

/-- 'orchardlaw11.StampVectors', WHERE WHAT IT READS IS OF BULK AT MOST 1048576: true; the input reads as it did. -/
def stampVectorsUptoRow : OpenClaim := { program := "ytphjnagmlgmdfaa", sum := "08a65e1ab3a60363c93d2827f25a89f36fb7da79c123004dc77dccfda587337f", func := "orchard/orchardlaw11.StampVectors", spec := "stampVectors", unfollowed := true, recurses := true, apart := false, narrowed := true }
def StampVectorsUptoSaid : Prop := stampVectorsUptoRow.holds Try.pinned (OpenSpec.upto stampVectorsSpec)

/-- 'orchardlaw11.StampRises', WHERE WHAT IT READS IS OF BULK AT MOST 1048576: true; the input reads as it did. -/
def stampRisesUptoRow : OpenClaim := { program := "ytphjnagmlgmdfaa", sum := "08a65e1ab3a60363c93d2827f25a89f36fb7da79c123004dc77dccfda587337f", func := "orchard/orchardlaw11.StampRises", spec := "stampRises", apart := false, narrowed := true }
def StampRisesUptoSaid : Prop := stampRisesUptoRow.holds Try.pinned (OpenSpec.upto stampRisesSpec)

/-- 'orchardlaw11.StampOrders', WHERE WHAT IT READS IS OF BULK AT MOST 1048576: true; the input reads as it did. -/
def stampOrdersUptoRow : OpenClaim := { program := "ytphjnagmlgmdfaa", sum := "08a65e1ab3a60363c93d2827f25a89f36fb7da79c123004dc77dccfda587337f", func := "orchard/orchardlaw11.StampOrders", spec := "stampOrders", apart := false, narrowed := true }
def StampOrdersUptoSaid : Prop := stampOrdersUptoRow.holds Try.pinned (OpenSpec.upto stampOrdersSpec)

/-- 'orchardlaw11.StampOps', WHERE WHAT IT READS IS OF BULK AT MOST 1048576: true; the input reads as it did. -/
def stampOpsUptoRow : OpenClaim := { program := "ytphjnagmlgmdfaa", sum := "08a65e1ab3a60363c93d2827f25a89f36fb7da79c123004dc77dccfda587337f", func := "orchard/orchardlaw11.StampOps", spec := "stampOps", inPlace := ["internal/bytealg.IndexByteString", "internal/bytealg.IndexString"], named := ["internal/bytealg.MaxLen"], apart := false, narrowed := true }
def StampOpsUptoSaid : Prop := stampOpsUptoRow.holds Try.pinned (OpenSpec.upto stampOpsSpec)

end Rows
end Go.Proofs.Ytphjnagmlgmdfaa
