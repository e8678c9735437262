/-
  No cell of these rows narrows 'for every input' (looked for: loops, veiled, ifaces, maps, wideKeys, modest, calm, conditions, laid).
  DERIVED. THE GIVEN ROWS OF THIS SEAT. 6 by the template 'for every input the law returns true; each argument reads behind the call as it read before'; 0 by the template 'total and deterministic' (their statements: YtjjnclgkppbpnaaTotals.lean).
  GIVEN WITH THE SEED: the statements are not yours to turn. If you find one false, say at which input.
  Laid BY PROGRAM, IN A SANDBOX (cutbox-rows.mjs): the forced cells as the released guide's own fill.sh prints them over the translation 528397df19ed80ae… (all of the seat's roots in one cut). By AI agents, Wed Nov 11 2026. No macro, syntax, notation, axiom, sorry.
-/
import Derived.Test.YtjjnclgkppbpnaaChecked
import GoSem.Claim
import GoSem.ClaimJoined
import GoSem.ClaimMapViews
import Derived.JoinedTies
import Derived.KernelRfl
namespace Go.Proofs.Ytjjnclgkppbpnaa
/- THE CELL 'sum', in the pinned program and in every row, IS THE sha256 OF THE DUMP (.gsa) THAT YtjjnclgkppbpnaaProg.lean LOADS. Nothing in Lean hashes anything: it is a label: what it is worth is what the hold of that sum in a sandbox is worth. -/
noncomputable def Try.pinned : Pinned := { name := "ytjjnclgkppbpnaa", sum := "528397df19ed80aefdf1ac8728b8bcf287826dbb017d30c8f86b57d2af830cec", checked := Try.checked }
namespace Rows
def none {H : Type} : Left H := { results := [], args := [] }

/-- 'orchardlaw17.EpochFollows': WHATEVER THE INPUT: true; the input reads as it did. -/
def epochFollowsSpec : ChangeSpec := { name := "epochFollows", fn := fun _ => fun
  | [d1, d2] => { results := [.lit (.bool true)], args := [d1, d2] }
  | _ => none }
def epochFollowsRow : OpenClaim := { program := "ytjjnclgkppbpnaa", sum := "528397df19ed80aefdf1ac8728b8bcf287826dbb017d30c8f86b57d2af830cec", func := "orchard/orchardlaw17.EpochFollows", spec := "epochFollows", unfollowed := true, recurses := true, apart := false }
def EpochFollowsSaid : Prop := epochFollowsRow.holds Try.pinned (OpenSpec.ofChange epochFollowsSpec)

/-- ITS FALSE NEIGHBOUR: 'it returns false'. Refute it at one input. -/
def epochFollowsWrong : ChangeSpec := { name := "epochFollows", fn := fun _ => fun
  | [d1, d2] => { results := [.lit (.bool false)], args := [d1, d2] }
  | _ => none }
def EpochFollowsWrongFalsely : Prop := epochFollowsRow.holds Try.pinned (OpenSpec.ofChange epochFollowsWrong)

/-- 'orchardlaw17.EpochOne': WHATEVER THE INPUT: true; the input reads as it did. -/
def epochOneSpec : ChangeSpec := { name := "epochOne", fn := fun _ => fun
  | [d1, d2] => { results := [.lit (.bool true)], args := [d1, d2] }
  | _ => none }
def epochOneRow : OpenClaim := { program := "ytjjnclgkppbpnaa", sum := "528397df19ed80aefdf1ac8728b8bcf287826dbb017d30c8f86b57d2af830cec", func := "orchard/orchardlaw17.EpochOne", spec := "epochOne", unfollowed := true, recurses := true, apart := false }
def EpochOneSaid : Prop := epochOneRow.holds Try.pinned (OpenSpec.ofChange epochOneSpec)

/-- ITS FALSE NEIGHBOUR: 'it returns false'. Refute it at one input. -/
def epochOneWrong : ChangeSpec := { name := "epochOne", fn := fun _ => fun
  | [d1, d2] => { results := [.lit (.bool false)], args := [d1, d2] }
  | _ => none }
def EpochOneWrongFalsely : Prop := epochOneRow.holds Try.pinned (OpenSpec.ofChange epochOneWrong)

/-- 'orchardlaw17.EpochApplies': WHATEVER THE INPUT: true; the input reads as it did. -/
def epochAppliesSpec : ChangeSpec := { name := "epochApplies", fn := fun _ => fun
  | [d1, d2, d3] => { results := [.lit (.bool true)], args := [d1, d2, d3] }
  | _ => none }
def epochAppliesRow : OpenClaim := { program := "ytjjnclgkppbpnaa", sum := "528397df19ed80aefdf1ac8728b8bcf287826dbb017d30c8f86b57d2af830cec", func := "orchard/orchardlaw17.EpochApplies", spec := "epochApplies", unfollowed := true, recurses := true, apart := false }
def EpochAppliesSaid : Prop := epochAppliesRow.holds Try.pinned (OpenSpec.ofChange epochAppliesSpec)

/-- ITS FALSE NEIGHBOUR: 'it returns false'. Refute it at one input. -/
def epochAppliesWrong : ChangeSpec := { name := "epochApplies", fn := fun _ => fun
  | [d1, d2, d3] => { results := [.lit (.bool false)], args := [d1, d2, d3] }
  | _ => none }
def EpochAppliesWrongFalsely : Prop := epochAppliesRow.holds Try.pinned (OpenSpec.ofChange epochAppliesWrong)

/-- 'orchardlaw17.EpochNone': WHATEVER THE INPUT: true; the input reads as it did. -/
def epochNoneSpec : ChangeSpec := { name := "epochNone", fn := fun _ => fun
  | [d1, d2] => { results := [.lit (.bool true)], args := [d1, d2] }
  | _ => none }
def epochNoneRow : OpenClaim := { program := "ytjjnclgkppbpnaa", sum := "528397df19ed80aefdf1ac8728b8bcf287826dbb017d30c8f86b57d2af830cec", func := "orchard/orchardlaw17.EpochNone", spec := "epochNone", unfollowed := true, recurses := true, apart := false }
def EpochNoneSaid : Prop := epochNoneRow.holds Try.pinned (OpenSpec.ofChange epochNoneSpec)

/-- ITS FALSE NEIGHBOUR: 'it returns false'. Refute it at one input. -/
def epochNoneWrong : ChangeSpec := { name := "epochNone", fn := fun _ => fun
  | [d1, d2] => { results := [.lit (.bool false)], args := [d1, d2] }
  | _ => none }
def EpochNoneWrongFalsely : Prop := epochNoneRow.holds Try.pinned (OpenSpec.ofChange epochNoneWrong)

/-- 'orchardlaw17.EpochLoads': WHATEVER THE INPUT: true; the input reads as it did. -/
def epochLoadsSpec : ChangeSpec := { name := "epochLoads", fn := fun _ => fun
  | [d] => { results := [.lit (.bool true)], args := [d] }
  | _ => none }
def epochLoadsRow : OpenClaim := { program := "ytjjnclgkppbpnaa", sum := "528397df19ed80aefdf1ac8728b8bcf287826dbb017d30c8f86b57d2af830cec", func := "orchard/orchardlaw17.EpochLoads", spec := "epochLoads", unfollowed := true, recurses := true, apart := false }
def EpochLoadsSaid : Prop := epochLoadsRow.holds Try.pinned (OpenSpec.ofChange epochLoadsSpec)

/-- ITS FALSE NEIGHBOUR: 'it returns false'. Refute it at one input. -/
def epochLoadsWrong : ChangeSpec := { name := "epochLoads", fn := fun _ => fun
  | [d] => { results := [.lit (.bool false)], args := [d] }
  | _ => none }
def EpochLoadsWrongFalsely : Prop := epochLoadsRow.holds Try.pinned (OpenSpec.ofChange epochLoadsWrong)

/-- 'orchardlaw17.EpochAgain': WHATEVER THE INPUT: true; the input reads as it did. -/
def epochAgainSpec : ChangeSpec := { name := "epochAgain", fn := fun _ => fun
  | [d1, d2, d3] => { results := [.lit (.bool true)], args := [d1, d2, d3] }
  | _ => none }
def epochAgainRow : OpenClaim := { program := "ytjjnclgkppbpnaa", sum := "528397df19ed80aefdf1ac8728b8bcf287826dbb017d30c8f86b57d2af830cec", func := "orchard/orchardlaw17.EpochAgain", spec := "epochAgain", unfollowed := true, recurses := true, apart := false }
def EpochAgainSaid : Prop := epochAgainRow.holds Try.pinned (OpenSpec.ofChange epochAgainSpec)

/-- ITS FALSE NEIGHBOUR: 'it returns false'. Refute it at one input. -/
def epochAgainWrong : ChangeSpec := { name := "epochAgain", fn := fun _ => fun
  | [d1, d2, d3] => { results := [.lit (.bool false)], args := [d1, d2, d3] }
  | _ => none }
def EpochAgainWrongFalsely : Prop := epochAgainRow.holds Try.pinned (OpenSpec.ofChange epochAgainWrong)

/- THE SECOND FORM. 'bulk': how many values and letters a reading holds, each counted each time it is reached (what is shared counts as often as it is met; a slice's spare places count too). A statement '..UptoSaid' is the law's where the arguments, and the package variables that the reading takes, are together of bulk at most 1048576: NARROWER than '..Said'. Prove '..Said' where nothing that the law and all that it calls make is longer than what came in: it says more and counts as full. Else prove '..UptoSaid'. A law counts once. -/
mutual
def uptoBulk {H : Type} : DataW H → Nat
  | .lit (.string bytes) => bytes.length + 1
  | .lit _ => 1
  | .nil => 1
  | .ptr d => uptoBulk d + 1
  | .slice elems spare => uptoBulkAll elems + uptoBulkAll spare + 1
  | .agg parts => uptoBulkAll parts + 1
  | .iface _ d => uptoBulk d + 1
  | .map entries => uptoBulkEntries entries + 1
  | .held _ => 1
def uptoBulkAll {H : Type} : List (DataW H) → Nat
  | [] => 0
  | d :: r => uptoBulk d + uptoBulkAll r
def uptoBulkEntries {H : Type} : List (Lit × DataW H) → Nat
  | [] => 0
  | x :: r => uptoBulkEntry x + uptoBulkEntries r
def uptoBulkEntry {H : Type} : Lit × DataW H → Nat
  | (.string bytes, d) => bytes.length + uptoBulk d + 1
  | (_, d) => uptoBulk d + 1
 end
def uptoSmall : (H : Type) → List (DataW H) → Bool := fun _ ds => decide (uptoBulkAll ds ≤ 1048576)
def OpenSpec.upto (s : _root_.Go.ChangeSpec) : _root_.Go.OpenSpec := { _root_.Go.OpenSpec.ofChange s with cond := some uptoSmall }

/-- 'orchardlaw17.EpochFollows', WHERE WHAT IT READS IS OF BULK AT MOST 1048576: true; the input reads as it did. -/
def epochFollowsUptoRow : OpenClaim := { program := "ytjjnclgkppbpnaa", sum := "528397df19ed80aefdf1ac8728b8bcf287826dbb017d30c8f86b57d2af830cec", func := "orchard/orchardlaw17.EpochFollows", spec := "epochFollows", unfollowed := true, recurses := true, apart := false, narrowed := true }
def EpochFollowsUptoSaid : Prop := epochFollowsUptoRow.holds Try.pinned (OpenSpec.upto epochFollowsSpec)

/-- 'orchardlaw17.EpochOne', WHERE WHAT IT READS IS OF BULK AT MOST 1048576: true; the input reads as it did. -/
def epochOneUptoRow : OpenClaim := { program := "ytjjnclgkppbpnaa", sum := "528397df19ed80aefdf1ac8728b8bcf287826dbb017d30c8f86b57d2af830cec", func := "orchard/orchardlaw17.EpochOne", spec := "epochOne", unfollowed := true, recurses := true, apart := false, narrowed := true }
def EpochOneUptoSaid : Prop := epochOneUptoRow.holds Try.pinned (OpenSpec.upto epochOneSpec)

/-- 'orchardlaw17.EpochApplies', WHERE WHAT IT READS IS OF BULK AT MOST 1048576: true; the input reads as it did. -/
def epochAppliesUptoRow : OpenClaim := { program := "ytjjnclgkppbpnaa", sum := "528397df19ed80aefdf1ac8728b8bcf287826dbb017d30c8f86b57d2af830cec", func := "orchard/orchardlaw17.EpochApplies", spec := "epochApplies", unfollowed := true, recurses := true, apart := false, narrowed := true }
def EpochAppliesUptoSaid : Prop := epochAppliesUptoRow.holds Try.pinned (OpenSpec.upto epochAppliesSpec)

/-- 'orchardlaw17.EpochNone', WHERE WHAT IT READS IS OF BULK AT MOST 1048576: true; the input reads as it did. -/
def epochNoneUptoRow : OpenClaim := { program := "ytjjnclgkppbpnaa", sum := "528397df19ed80aefdf1ac8728b8bcf287826dbb017d30c8f86b57d2af830cec", func := "orchard/orchardlaw17.EpochNone", spec := "epochNone", unfollowed := true, recurses := true, apart := false, narrowed := true }
def EpochNoneUptoSaid : Prop := epochNoneUptoRow.holds Try.pinned (OpenSpec.upto epochNoneSpec)

/-- 'orchardlaw17.EpochLoads', WHERE WHAT IT READS IS OF BULK AT MOST 1048576: true; the input reads as it did. -/
def epochLoadsUptoRow : OpenClaim := { program := "ytjjnclgkppbpnaa", sum := "528397df19ed80aefdf1ac8728b8bcf287826dbb017d30c8f86b57d2af830cec", func := "orchard/orchardlaw17.EpochLoads", spec := "epochLoads", unfollowed := true, recurses := true, apart := false, narrowed := true }
def EpochLoadsUptoSaid : Prop := epochLoadsUptoRow.holds Try.pinned (OpenSpec.upto epochLoadsSpec)

/-- 'orchardlaw17.EpochAgain', WHERE WHAT IT READS IS OF BULK AT MOST 1048576: true; the input reads as it did. -/
def epochAgainUptoRow : OpenClaim := { program := "ytjjnclgkppbpnaa", sum := "528397df19ed80aefdf1ac8728b8bcf287826dbb017d30c8f86b57d2af830cec", func := "orchard/orchardlaw17.EpochAgain", spec := "epochAgain", unfollowed := true, recurses := true, apart := false, narrowed := true }
def EpochAgainUptoSaid : Prop := epochAgainUptoRow.holds Try.pinned (OpenSpec.upto epochAgainSpec)

end Rows
end Go.Proofs.Ytjjnclgkppbpnaa
