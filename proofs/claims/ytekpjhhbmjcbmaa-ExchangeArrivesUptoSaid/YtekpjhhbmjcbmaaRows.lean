/-
  No cell of these rows narrows 'for every input' (looked for: loops, veiled, ifaces, maps, wideKeys, modest, calm, conditions, laid).
  DERIVED. THE GIVEN ROWS OF THIS SEAT. 7 by the template 'for every input the law returns true; each argument reads behind the call as it read before'; 0 by the template 'total and deterministic' (their statements: YtekpjhhbmjcbmaaTotals.lean).
  GIVEN WITH THE SEED: the statements are not yours to turn. If you find one false, say at which input.
  Laid BY PROGRAM, IN A SANDBOX (cutbox-rows.mjs): the forced cells as the released guide's own fill.sh prints them over the translation bd3059f8021b8d9c… (all of the seat's roots in one cut). By AI agents, Wed Nov 11 2026. No macro, syntax, notation, axiom, sorry.
-/
import Derived.Test.YtekpjhhbmjcbmaaChecked
import GoSem.Claim
import GoSem.ClaimJoined
import GoSem.ClaimMapViews
import Derived.JoinedTies
import Derived.KernelRfl
namespace Go.Proofs.Ytekpjhhbmjcbmaa
/- THE CELL 'sum', in the pinned program and in every row, IS THE sha256 OF THE DUMP (.gsa) THAT YtekpjhhbmjcbmaaProg.lean LOADS. Nothing in Lean hashes anything: it is a label: what it is worth is what the hold of that sum in a sandbox is worth. -/
noncomputable def Try.pinned : Pinned := { name := "ytekpjhhbmjcbmaa", sum := "bd3059f8021b8d9cbe034c4cdcd16c4cb85d6cac0e55cf58b8a8ae955891ad1f", checked := Try.checked }
namespace Rows
def none {H : Type} : Left H := { results := [], args := [] }

/-- 'orchardlaw16.ExchangeTakes': WHATEVER THE INPUT: true; the input reads as it did. -/
def exchangeTakesSpec : ChangeSpec := { name := "exchangeTakes", fn := fun _ => fun
  | [d1, d2, d3, d4] => { results := [.lit (.bool true)], args := [d1, d2, d3, d4] }
  | _ => none }
def exchangeTakesRow : OpenClaim := { program := "ytekpjhhbmjcbmaa", sum := "bd3059f8021b8d9cbe034c4cdcd16c4cb85d6cac0e55cf58b8a8ae955891ad1f", func := "orchard/orchardlaw16.ExchangeTakes", spec := "exchangeTakes", inPlace := ["internal/bytealg.IndexByteString", "internal/bytealg.IndexString"], unfollowed := true, recurses := true, named := ["internal/bytealg.MaxLen"], apart := false }
def ExchangeTakesSaid : Prop := exchangeTakesRow.holds Try.pinned (OpenSpec.ofChange exchangeTakesSpec)

/-- ITS FALSE NEIGHBOUR: 'it returns false'. Refute it at one input. -/
def exchangeTakesWrong : ChangeSpec := { name := "exchangeTakes", fn := fun _ => fun
  | [d1, d2, d3, d4] => { results := [.lit (.bool false)], args := [d1, d2, d3, d4] }
  | _ => none }
def ExchangeTakesWrongFalsely : Prop := exchangeTakesRow.holds Try.pinned (OpenSpec.ofChange exchangeTakesWrong)

/-- 'orchardlaw16.ExchangeGapless': WHATEVER THE INPUT: true; the input reads as it did. -/
def exchangeGaplessSpec : ChangeSpec := { name := "exchangeGapless", fn := fun _ => fun
  | [d1, d2, d3, d4] => { results := [.lit (.bool true)], args := [d1, d2, d3, d4] }
  | _ => none }
def exchangeGaplessRow : OpenClaim := { program := "ytekpjhhbmjcbmaa", sum := "bd3059f8021b8d9cbe034c4cdcd16c4cb85d6cac0e55cf58b8a8ae955891ad1f", func := "orchard/orchardlaw16.ExchangeGapless", spec := "exchangeGapless", inPlace := ["internal/bytealg.IndexByteString", "internal/bytealg.IndexString"], unfollowed := true, recurses := true, named := ["internal/bytealg.MaxLen"], apart := false }
def ExchangeGaplessSaid : Prop := exchangeGaplessRow.holds Try.pinned (OpenSpec.ofChange exchangeGaplessSpec)

/-- ITS FALSE NEIGHBOUR: 'it returns false'. Refute it at one input. -/
def exchangeGaplessWrong : ChangeSpec := { name := "exchangeGapless", fn := fun _ => fun
  | [d1, d2, d3, d4] => { results := [.lit (.bool false)], args := [d1, d2, d3, d4] }
  | _ => none }
def ExchangeGaplessWrongFalsely : Prop := exchangeGaplessRow.holds Try.pinned (OpenSpec.ofChange exchangeGaplessWrong)

/-- 'orchardlaw16.ExchangeTells': WHATEVER THE INPUT: true; the input reads as it did. -/
def exchangeTellsSpec : ChangeSpec := { name := "exchangeTells", fn := fun _ => fun
  | [d1, d2, d3, d4] => { results := [.lit (.bool true)], args := [d1, d2, d3, d4] }
  | _ => none }
def exchangeTellsRow : OpenClaim := { program := "ytekpjhhbmjcbmaa", sum := "bd3059f8021b8d9cbe034c4cdcd16c4cb85d6cac0e55cf58b8a8ae955891ad1f", func := "orchard/orchardlaw16.ExchangeTells", spec := "exchangeTells", inPlace := ["internal/bytealg.IndexByteString", "internal/bytealg.IndexString"], unfollowed := true, recurses := true, named := ["internal/bytealg.MaxLen"], apart := false }
def ExchangeTellsSaid : Prop := exchangeTellsRow.holds Try.pinned (OpenSpec.ofChange exchangeTellsSpec)

/-- ITS FALSE NEIGHBOUR: 'it returns false'. Refute it at one input. -/
def exchangeTellsWrong : ChangeSpec := { name := "exchangeTells", fn := fun _ => fun
  | [d1, d2, d3, d4] => { results := [.lit (.bool false)], args := [d1, d2, d3, d4] }
  | _ => none }
def ExchangeTellsWrongFalsely : Prop := exchangeTellsRow.holds Try.pinned (OpenSpec.ofChange exchangeTellsWrong)

/-- 'orchardlaw16.ExchangePushes': WHATEVER THE INPUT: true; the input reads as it did. -/
def exchangePushesSpec : ChangeSpec := { name := "exchangePushes", fn := fun _ => fun
  | [d1, d2, d3, d4, d5] => { results := [.lit (.bool true)], args := [d1, d2, d3, d4, d5] }
  | _ => none }
def exchangePushesRow : OpenClaim := { program := "ytekpjhhbmjcbmaa", sum := "bd3059f8021b8d9cbe034c4cdcd16c4cb85d6cac0e55cf58b8a8ae955891ad1f", func := "orchard/orchardlaw16.ExchangePushes", spec := "exchangePushes", inPlace := ["internal/bytealg.IndexByteString", "internal/bytealg.IndexString"], unfollowed := true, recurses := true, named := ["internal/bytealg.MaxLen"], apart := false }
def ExchangePushesSaid : Prop := exchangePushesRow.holds Try.pinned (OpenSpec.ofChange exchangePushesSpec)

/-- ITS FALSE NEIGHBOUR: 'it returns false'. Refute it at one input. -/
def exchangePushesWrong : ChangeSpec := { name := "exchangePushes", fn := fun _ => fun
  | [d1, d2, d3, d4, d5] => { results := [.lit (.bool false)], args := [d1, d2, d3, d4, d5] }
  | _ => none }
def ExchangePushesWrongFalsely : Prop := exchangePushesRow.holds Try.pinned (OpenSpec.ofChange exchangePushesWrong)

/-- 'orchardlaw16.ExchangeArrives': WHATEVER THE INPUT: true; the input reads as it did. -/
def exchangeArrivesSpec : ChangeSpec := { name := "exchangeArrives", fn := fun _ => fun
  | [d1, d2, d3] => { results := [.lit (.bool true)], args := [d1, d2, d3] }
  | _ => none }
def exchangeArrivesRow : OpenClaim := { program := "ytekpjhhbmjcbmaa", sum := "bd3059f8021b8d9cbe034c4cdcd16c4cb85d6cac0e55cf58b8a8ae955891ad1f", func := "orchard/orchardlaw16.ExchangeArrives", spec := "exchangeArrives", inPlace := ["internal/bytealg.IndexByteString", "internal/bytealg.IndexString"], unfollowed := true, recurses := true, named := ["internal/bytealg.MaxLen"], apart := false }
def ExchangeArrivesSaid : Prop := exchangeArrivesRow.holds Try.pinned (OpenSpec.ofChange exchangeArrivesSpec)

/-- ITS FALSE NEIGHBOUR: 'it returns false'. Refute it at one input. -/
def exchangeArrivesWrong : ChangeSpec := { name := "exchangeArrives", fn := fun _ => fun
  | [d1, d2, d3] => { results := [.lit (.bool false)], args := [d1, d2, d3] }
  | _ => none }
def ExchangeArrivesWrongFalsely : Prop := exchangeArrivesRow.holds Try.pinned (OpenSpec.ofChange exchangeArrivesWrong)

/-- 'orchardlaw16.ExchangeEntries': WHATEVER THE INPUT: true; the input reads as it did. -/
def exchangeEntriesSpec : ChangeSpec := { name := "exchangeEntries", fn := fun _ => fun
  | [d1, d2, d3] => { results := [.lit (.bool true)], args := [d1, d2, d3] }
  | _ => none }
def exchangeEntriesRow : OpenClaim := { program := "ytekpjhhbmjcbmaa", sum := "bd3059f8021b8d9cbe034c4cdcd16c4cb85d6cac0e55cf58b8a8ae955891ad1f", func := "orchard/orchardlaw16.ExchangeEntries", spec := "exchangeEntries", inPlace := ["internal/bytealg.IndexByteString", "internal/bytealg.IndexString"], unfollowed := true, recurses := true, named := ["internal/bytealg.MaxLen"], apart := false }
def ExchangeEntriesSaid : Prop := exchangeEntriesRow.holds Try.pinned (OpenSpec.ofChange exchangeEntriesSpec)

/-- ITS FALSE NEIGHBOUR: 'it returns false'. Refute it at one input. -/
def exchangeEntriesWrong : ChangeSpec := { name := "exchangeEntries", fn := fun _ => fun
  | [d1, d2, d3] => { results := [.lit (.bool false)], args := [d1, d2, d3] }
  | _ => none }
def ExchangeEntriesWrongFalsely : Prop := exchangeEntriesRow.holds Try.pinned (OpenSpec.ofChange exchangeEntriesWrong)

/-- 'orchardlaw16.ExchangeOwn': WHATEVER THE INPUT: true; the input reads as it did. -/
def exchangeOwnSpec : ChangeSpec := { name := "exchangeOwn", fn := fun _ => fun
  | [d1, d2, d3] => { results := [.lit (.bool true)], args := [d1, d2, d3] }
  | _ => none }
def exchangeOwnRow : OpenClaim := { program := "ytekpjhhbmjcbmaa", sum := "bd3059f8021b8d9cbe034c4cdcd16c4cb85d6cac0e55cf58b8a8ae955891ad1f", func := "orchard/orchardlaw16.ExchangeOwn", spec := "exchangeOwn", inPlace := ["internal/bytealg.IndexByteString", "internal/bytealg.IndexString"], unfollowed := true, recurses := true, named := ["internal/bytealg.MaxLen"], apart := false }
def ExchangeOwnSaid : Prop := exchangeOwnRow.holds Try.pinned (OpenSpec.ofChange exchangeOwnSpec)

/-- ITS FALSE NEIGHBOUR: 'it returns false'. Refute it at one input. -/
def exchangeOwnWrong : ChangeSpec := { name := "exchangeOwn", fn := fun _ => fun
  | [d1, d2, d3] => { results := [.lit (.bool false)], args := [d1, d2, d3] }
  | _ => none }
def ExchangeOwnWrongFalsely : Prop := exchangeOwnRow.holds Try.pinned (OpenSpec.ofChange exchangeOwnWrong)

/- THE SECOND FORM. 'bulk': how many values and letters a reading holds, each counted each time it is reached (what is shared counts as often as it is met; a slice's spare places count too). A statement '..UptoSaid' is the law's where the arguments, and the package variables that the reading takes, are together of bulk at most 1048576: NARROWER than '..Said'. Prove '..Said' where nothing that the law and all that it calls make is longer than what came in: it says more and counts as full. Else prove '..UptoSaid'. A law counts once. -/
mutual
def uptoBulk {H : Type} : DataW H → Nat
  | .lit (.string bytes) => bytes.length + 1
  | .lit _ => 1
  | .nil => 1
  | .ptr d => uptoBulk d + 1
  | .slice elems spare => uptoBulkAll elems + uptoBulkAll spare + 1
  | .agg parts => uptoBulkAll parts + 1
  | .iface _ d => uptoBulk d + 1
  | .map entries => uptoBulkEntries entries + 1
  | .held _ => 1
def uptoBulkAll {H : Type} : List (DataW H) → Nat
  | [] => 0
  | d :: r => uptoBulk d + uptoBulkAll r
def uptoBulkEntries {H : Type} : List (Lit × DataW H) → Nat
  | [] => 0
  | x :: r => uptoBulkEntry x + uptoBulkEntries r
def uptoBulkEntry {H : Type} : Lit × DataW H → Nat
  | (.string bytes, d) => bytes.length + uptoBulk d + 1
  | (_, d) => uptoBulk d + 1
 end
def uptoSmall : (H : Type) → List (DataW H) → Bool := fun _ ds => decide (uptoBulkAll ds ≤ 1048576)
def OpenSpec.upto (s : _root_.Go.ChangeSpec) : _root_.Go.OpenSpec := { _root_.Go.OpenSpec.ofChange s with cond := some uptoSmall }

/-- 'orchardlaw16.ExchangeTakes', WHERE WHAT IT READS IS OF BULK AT MOST 1048576: true; the input reads as it did. -/
def exchangeTakesUptoRow : OpenClaim := { program := "ytekpjhhbmjcbmaa", sum := "bd3059f8021b8d9cbe034c4cdcd16c4cb85d6cac0e55cf58b8a8ae955891ad1f", func := "orchard/orchardlaw16.ExchangeTakes", spec := "exchangeTakes", inPlace := ["internal/bytealg.IndexByteString", "internal/bytealg.IndexString"], unfollowed := true, recurses := true, named := ["internal/bytealg.MaxLen"], apart := false, narrowed := true }
def ExchangeTakesUptoSaid : Prop := exchangeTakesUptoRow.holds Try.pinned (OpenSpec.upto exchangeTakesSpec)

/-- 'orchardlaw16.ExchangeGapless', WHERE WHAT IT READS IS OF BULK AT MOST 1048576: true; the input reads as it did. -/
def exchangeGaplessUptoRow : OpenClaim := { program := "ytekpjhhbmjcbmaa", sum := "bd3059f8021b8d9cbe034c4cdcd16c4cb85d6cac0e55cf58b8a8ae955891ad1f", func := "orchard/orchardlaw16.ExchangeGapless", spec := "exchangeGapless", inPlace := ["internal/bytealg.IndexByteString", "internal/bytealg.IndexString"], unfollowed := true, recurses := true, named := ["internal/bytealg.MaxLen"], apart := false, narrowed := true }
def ExchangeGaplessUptoSaid : Prop := exchangeGaplessUptoRow.holds Try.pinned (OpenSpec.upto exchangeGaplessSpec)

/-- 'orchardlaw16.ExchangeTells', WHERE WHAT IT READS IS OF BULK AT MOST 1048576: true; the input reads as it did. -/
def exchangeTellsUptoRow : OpenClaim := { program := "ytekpjhhbmjcbmaa", sum := "bd3059f8021b8d9cbe034c4cdcd16c4cb85d6cac0e55cf58b8a8ae955891ad1f", func := "orchard/orchardlaw16.ExchangeTells", spec := "exchangeTells", inPlace := ["internal/bytealg.IndexByteString", "internal/bytealg.IndexString"], unfollowed := true, recurses := true, named := ["internal/bytealg.MaxLen"], apart := false, narrowed := true }
def ExchangeTellsUptoSaid : Prop := exchangeTellsUptoRow.holds Try.pinned (OpenSpec.upto exchangeTellsSpec)

/-- 'orchardlaw16.ExchangePushes', WHERE WHAT IT READS IS OF BULK AT MOST 1048576: true; the input reads as it did. -/
def exchangePushesUptoRow : OpenClaim := { program := "ytekpjhhbmjcbmaa", sum := "bd3059f8021b8d9cbe034c4cdcd16c4cb85d6cac0e55cf58b8a8ae955891ad1f", func := "orchard/orchardlaw16.ExchangePushes", spec := "exchangePushes", inPlace := ["internal/bytealg.IndexByteString", "internal/bytealg.IndexString"], unfollowed := true, recurses := true, named := ["internal/bytealg.MaxLen"], apart := false, narrowed := true }
def ExchangePushesUptoSaid : Prop := exchangePushesUptoRow.holds Try.pinned (OpenSpec.upto exchangePushesSpec)

/-- 'orchardlaw16.ExchangeArrives', WHERE WHAT IT READS IS OF BULK AT MOST 1048576: true; the input reads as it did. -/
def exchangeArrivesUptoRow : OpenClaim := { program := "ytekpjhhbmjcbmaa", sum := "bd3059f8021b8d9cbe034c4cdcd16c4cb85d6cac0e55cf58b8a8ae955891ad1f", func := "orchard/orchardlaw16.ExchangeArrives", spec := "exchangeArrives", inPlace := ["internal/bytealg.IndexByteString", "internal/bytealg.IndexString"], unfollowed := true, recurses := true, named := ["internal/bytealg.MaxLen"], apart := false, narrowed := true }
def ExchangeArrivesUptoSaid : Prop := exchangeArrivesUptoRow.holds Try.pinned (OpenSpec.upto exchangeArrivesSpec)

/-- 'orchardlaw16.ExchangeEntries', WHERE WHAT IT READS IS OF BULK AT MOST 1048576: true; the input reads as it did. -/
def exchangeEntriesUptoRow : OpenClaim := { program := "ytekpjhhbmjcbmaa", sum := "bd3059f8021b8d9cbe034c4cdcd16c4cb85d6cac0e55cf58b8a8ae955891ad1f", func := "orchard/orchardlaw16.ExchangeEntries", spec := "exchangeEntries", inPlace := ["internal/bytealg.IndexByteString", "internal/bytealg.IndexString"], unfollowed := true, recurses := true, named := ["internal/bytealg.MaxLen"], apart := false, narrowed := true }
def ExchangeEntriesUptoSaid : Prop := exchangeEntriesUptoRow.holds Try.pinned (OpenSpec.upto exchangeEntriesSpec)

/-- 'orchardlaw16.ExchangeOwn', WHERE WHAT IT READS IS OF BULK AT MOST 1048576: true; the input reads as it did. -/
def exchangeOwnUptoRow : OpenClaim := { program := "ytekpjhhbmjcbmaa", sum := "bd3059f8021b8d9cbe034c4cdcd16c4cb85d6cac0e55cf58b8a8ae955891ad1f", func := "orchard/orchardlaw16.ExchangeOwn", spec := "exchangeOwn", inPlace := ["internal/bytealg.IndexByteString", "internal/bytealg.IndexString"], unfollowed := true, recurses := true, named := ["internal/bytealg.MaxLen"], apart := false, narrowed := true }
def ExchangeOwnUptoSaid : Prop := exchangeOwnUptoRow.holds Try.pinned (OpenSpec.upto exchangeOwnSpec)

end Rows
end Go.Proofs.Ytekpjhhbmjcbmaa
