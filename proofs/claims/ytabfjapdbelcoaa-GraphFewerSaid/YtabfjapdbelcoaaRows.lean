/-
  No cell of these rows narrows 'for every input' (looked for: loops, veiled, ifaces, maps, wideKeys, modest, calm, conditions, laid).
  DERIVED. THE GIVEN ROWS OF THIS SEAT. 8 by the template 'for every input the law returns true; each argument reads behind the call as it read before'; 0 by the template 'total and deterministic' (their statements: YtabfjapdbelcoaaTotals.lean).
  GIVEN WITH THE SEED: the statements are not yours to turn. If you find one false, say at which input.
  Laid BY PROGRAM, IN A SANDBOX (cutbox-rows.mjs): the forced cells as the released guide's own fill.sh prints them over the translation ec434b754c85e5a4… (all of the seat's roots in one cut). By AI agents, Wed Nov 11 2026. No macro, syntax, notation, axiom, sorry.
-/
import Derived.Test.YtabfjapdbelcoaaChecked
import GoSem.Claim
import GoSem.ClaimJoined
import GoSem.ClaimMapViews
import Derived.JoinedTies
import Derived.KernelRfl
namespace Go.Proofs.Ytabfjapdbelcoaa
/- THE CELL 'sum', in the pinned program and in every row, IS THE sha256 OF THE DUMP (.gsa) THAT YtabfjapdbelcoaaProg.lean LOADS. Nothing in Lean hashes anything: it is a label: what it is worth is what the hold of that sum in a sandbox is worth. -/
noncomputable def Try.pinned : Pinned := { name := "ytabfjapdbelcoaa", sum := "ec434b754c85e5a4be2ffa1d10f18b68b2562e128db2a94ac36e71343202adf4", checked := Try.checked }
namespace Rows
def none {H : Type} : Left H := { results := [], args := [] }

/-- 'skiarealaw05.GraphRights': WHATEVER THE INPUT: true; the input reads as it did. -/
def graphRightsSpec : ChangeSpec := { name := "graphRights", fn := fun _ => fun
  | [d] => { results := [.lit (.bool true)], args := [d] }
  | _ => none }
def graphRightsRow : OpenClaim := { program := "ytabfjapdbelcoaa", sum := "ec434b754c85e5a4be2ffa1d10f18b68b2562e128db2a94ac36e71343202adf4", func := "skiarea/skiarealaw05.GraphRights", spec := "graphRights", unfollowed := true, recurses := true, apart := false }
def GraphRightsSaid : Prop := graphRightsRow.holds Try.pinned (OpenSpec.ofChange graphRightsSpec)

/-- ITS FALSE NEIGHBOUR: 'it returns false'. Refute it at one input. -/
def graphRightsWrong : ChangeSpec := { name := "graphRights", fn := fun _ => fun
  | [d] => { results := [.lit (.bool false)], args := [d] }
  | _ => none }
def GraphRightsWrongFalsely : Prop := graphRightsRow.holds Try.pinned (OpenSpec.ofChange graphRightsWrong)

/-- 'skiarealaw05.GraphReaches': WHATEVER THE INPUT: true; the input reads as it did. -/
def graphReachesSpec : ChangeSpec := { name := "graphReaches", fn := fun _ => fun
  | [d1, d2] => { results := [.lit (.bool true)], args := [d1, d2] }
  | _ => none }
def graphReachesRow : OpenClaim := { program := "ytabfjapdbelcoaa", sum := "ec434b754c85e5a4be2ffa1d10f18b68b2562e128db2a94ac36e71343202adf4", func := "skiarea/skiarealaw05.GraphReaches", spec := "graphReaches", unfollowed := true, recurses := true, apart := false }
def GraphReachesSaid : Prop := graphReachesRow.holds Try.pinned (OpenSpec.ofChange graphReachesSpec)

/-- ITS FALSE NEIGHBOUR: 'it returns false'. Refute it at one input. -/
def graphReachesWrong : ChangeSpec := { name := "graphReaches", fn := fun _ => fun
  | [d1, d2] => { results := [.lit (.bool false)], args := [d1, d2] }
  | _ => none }
def GraphReachesWrongFalsely : Prop := graphReachesRow.holds Try.pinned (OpenSpec.ofChange graphReachesWrong)

/-- 'skiarealaw05.GraphOrders': WHATEVER THE INPUT: true; the input reads as it did. -/
def graphOrdersSpec : ChangeSpec := { name := "graphOrders", fn := fun _ => fun
  | [d] => { results := [.lit (.bool true)], args := [d] }
  | _ => none }
def graphOrdersRow : OpenClaim := { program := "ytabfjapdbelcoaa", sum := "ec434b754c85e5a4be2ffa1d10f18b68b2562e128db2a94ac36e71343202adf4", func := "skiarea/skiarealaw05.GraphOrders", spec := "graphOrders", unfollowed := true, recurses := true, apart := false }
def GraphOrdersSaid : Prop := graphOrdersRow.holds Try.pinned (OpenSpec.ofChange graphOrdersSpec)

/-- ITS FALSE NEIGHBOUR: 'it returns false'. Refute it at one input. -/
def graphOrdersWrong : ChangeSpec := { name := "graphOrders", fn := fun _ => fun
  | [d] => { results := [.lit (.bool false)], args := [d] }
  | _ => none }
def GraphOrdersWrongFalsely : Prop := graphOrdersRow.holds Try.pinned (OpenSpec.ofChange graphOrdersWrong)

/-- 'skiarealaw05.GraphPaths': WHATEVER THE INPUT: true; the input reads as it did. -/
def graphPathsSpec : ChangeSpec := { name := "graphPaths", fn := fun _ => fun
  | [d1, d2, d3] => { results := [.lit (.bool true)], args := [d1, d2, d3] }
  | _ => none }
def graphPathsRow : OpenClaim := { program := "ytabfjapdbelcoaa", sum := "ec434b754c85e5a4be2ffa1d10f18b68b2562e128db2a94ac36e71343202adf4", func := "skiarea/skiarealaw05.GraphPaths", spec := "graphPaths", unfollowed := true, recurses := true, apart := false }
def GraphPathsSaid : Prop := graphPathsRow.holds Try.pinned (OpenSpec.ofChange graphPathsSpec)

/-- ITS FALSE NEIGHBOUR: 'it returns false'. Refute it at one input. -/
def graphPathsWrong : ChangeSpec := { name := "graphPaths", fn := fun _ => fun
  | [d1, d2, d3] => { results := [.lit (.bool false)], args := [d1, d2, d3] }
  | _ => none }
def GraphPathsWrongFalsely : Prop := graphPathsRow.holds Try.pinned (OpenSpec.ofChange graphPathsWrong)

/-- 'skiarealaw05.GraphShortest': WHATEVER THE INPUT: true; the input reads as it did. -/
def graphShortestSpec : ChangeSpec := { name := "graphShortest", fn := fun _ => fun
  | [d1, d2, d3] => { results := [.lit (.bool true)], args := [d1, d2, d3] }
  | _ => none }
def graphShortestRow : OpenClaim := { program := "ytabfjapdbelcoaa", sum := "ec434b754c85e5a4be2ffa1d10f18b68b2562e128db2a94ac36e71343202adf4", func := "skiarea/skiarealaw05.GraphShortest", spec := "graphShortest", unfollowed := true, recurses := true, apart := false }
def GraphShortestSaid : Prop := graphShortestRow.holds Try.pinned (OpenSpec.ofChange graphShortestSpec)

/-- ITS FALSE NEIGHBOUR: 'it returns false'. Refute it at one input. -/
def graphShortestWrong : ChangeSpec := { name := "graphShortest", fn := fun _ => fun
  | [d1, d2, d3] => { results := [.lit (.bool false)], args := [d1, d2, d3] }
  | _ => none }
def GraphShortestWrongFalsely : Prop := graphShortestRow.holds Try.pinned (OpenSpec.ofChange graphShortestWrong)

/-- 'skiarealaw05.GraphLater': WHATEVER THE INPUT: true; the input reads as it did. -/
def graphLaterSpec : ChangeSpec := { name := "graphLater", fn := fun _ => fun
  | [d] => { results := [.lit (.bool true)], args := [d] }
  | _ => none }
def graphLaterRow : OpenClaim := { program := "ytabfjapdbelcoaa", sum := "ec434b754c85e5a4be2ffa1d10f18b68b2562e128db2a94ac36e71343202adf4", func := "skiarea/skiarealaw05.GraphLater", spec := "graphLater", unfollowed := true, recurses := true, apart := false }
def GraphLaterSaid : Prop := graphLaterRow.holds Try.pinned (OpenSpec.ofChange graphLaterSpec)

/-- ITS FALSE NEIGHBOUR: 'it returns false'. Refute it at one input. -/
def graphLaterWrong : ChangeSpec := { name := "graphLater", fn := fun _ => fun
  | [d] => { results := [.lit (.bool false)], args := [d] }
  | _ => none }
def GraphLaterWrongFalsely : Prop := graphLaterRow.holds Try.pinned (OpenSpec.ofChange graphLaterWrong)

/-- 'skiarealaw05.GraphTurned': WHATEVER THE INPUT: true; the input reads as it did. -/
def graphTurnedSpec : ChangeSpec := { name := "graphTurned", fn := fun _ => fun
  | [d1, d2, d3] => { results := [.lit (.bool true)], args := [d1, d2, d3] }
  | _ => none }
def graphTurnedRow : OpenClaim := { program := "ytabfjapdbelcoaa", sum := "ec434b754c85e5a4be2ffa1d10f18b68b2562e128db2a94ac36e71343202adf4", func := "skiarea/skiarealaw05.GraphTurned", spec := "graphTurned", unfollowed := true, recurses := true, apart := false }
def GraphTurnedSaid : Prop := graphTurnedRow.holds Try.pinned (OpenSpec.ofChange graphTurnedSpec)

/-- ITS FALSE NEIGHBOUR: 'it returns false'. Refute it at one input. -/
def graphTurnedWrong : ChangeSpec := { name := "graphTurned", fn := fun _ => fun
  | [d1, d2, d3] => { results := [.lit (.bool false)], args := [d1, d2, d3] }
  | _ => none }
def GraphTurnedWrongFalsely : Prop := graphTurnedRow.holds Try.pinned (OpenSpec.ofChange graphTurnedWrong)

/-- 'skiarealaw05.GraphFewer': WHATEVER THE INPUT: true; the input reads as it did. -/
def graphFewerSpec : ChangeSpec := { name := "graphFewer", fn := fun _ => fun
  | [d1, d2, d3] => { results := [.lit (.bool true)], args := [d1, d2, d3] }
  | _ => none }
def graphFewerRow : OpenClaim := { program := "ytabfjapdbelcoaa", sum := "ec434b754c85e5a4be2ffa1d10f18b68b2562e128db2a94ac36e71343202adf4", func := "skiarea/skiarealaw05.GraphFewer", spec := "graphFewer", unfollowed := true, recurses := true, apart := false }
def GraphFewerSaid : Prop := graphFewerRow.holds Try.pinned (OpenSpec.ofChange graphFewerSpec)

/-- ITS FALSE NEIGHBOUR: 'it returns false'. Refute it at one input. -/
def graphFewerWrong : ChangeSpec := { name := "graphFewer", fn := fun _ => fun
  | [d1, d2, d3] => { results := [.lit (.bool false)], args := [d1, d2, d3] }
  | _ => none }
def GraphFewerWrongFalsely : Prop := graphFewerRow.holds Try.pinned (OpenSpec.ofChange graphFewerWrong)

/- THE SECOND FORM. 'bulk': how many values and letters a reading holds, each counted each time it is reached (what is shared counts as often as it is met; a slice's spare places count too). A statement '..UptoSaid' is the law's where the arguments, and the package variables that the reading takes, are together of bulk at most 1048576: NARROWER than '..Said'. Prove '..Said' where nothing that the law and all that it calls make is longer than what came in: it says more and counts as full. Else prove '..UptoSaid'. A law counts once. -/
mutual
def uptoBulk {H : Type} : DataW H → Nat
  | .lit (.string bytes) => bytes.length + 1
  | .lit _ => 1
  | .nil => 1
  | .ptr d => uptoBulk d + 1
  | .slice elems spare => uptoBulkAll elems + uptoBulkAll spare + 1
  | .agg parts => uptoBulkAll parts + 1
  | .iface _ d => uptoBulk d + 1
  | .map entries => uptoBulkEntries entries + 1
  | .held _ => 1
def uptoBulkAll {H : Type} : List (DataW H) → Nat
  | [] => 0
  | d :: r => uptoBulk d + uptoBulkAll r
def uptoBulkEntries {H : Type} : List (Lit × DataW H) → Nat
  | [] => 0
  | x :: r => uptoBulkEntry x + uptoBulkEntries r
def uptoBulkEntry {H : Type} : Lit × DataW H → Nat
  | (.string bytes, d) => bytes.length + uptoBulk d + 1
  | (_, d) => uptoBulk d + 1
 end
def uptoSmall : (H : Type) → List (DataW H) → Bool := fun _ ds => decide (uptoBulkAll ds ≤ 1048576)
def OpenSpec.upto (s : _root_.Go.ChangeSpec) : _root_.Go.OpenSpec := { _root_.Go.OpenSpec.ofChange s with cond := some uptoSmall }

/-- 'skiarealaw05.GraphRights', WHERE WHAT IT READS IS OF BULK AT MOST 1048576: true; the input reads as it did. -/
def graphRightsUptoRow : OpenClaim := { program := "ytabfjapdbelcoaa", sum := "ec434b754c85e5a4be2ffa1d10f18b68b2562e128db2a94ac36e71343202adf4", func := "skiarea/skiarealaw05.GraphRights", spec := "graphRights", unfollowed := true, recurses := true, apart := false, narrowed := true }
def GraphRightsUptoSaid : Prop := graphRightsUptoRow.holds Try.pinned (OpenSpec.upto graphRightsSpec)

/-- 'skiarealaw05.GraphReaches', WHERE WHAT IT READS IS OF BULK AT MOST 1048576: true; the input reads as it did. -/
def graphReachesUptoRow : OpenClaim := { program := "ytabfjapdbelcoaa", sum := "ec434b754c85e5a4be2ffa1d10f18b68b2562e128db2a94ac36e71343202adf4", func := "skiarea/skiarealaw05.GraphReaches", spec := "graphReaches", unfollowed := true, recurses := true, apart := false, narrowed := true }
def GraphReachesUptoSaid : Prop := graphReachesUptoRow.holds Try.pinned (OpenSpec.upto graphReachesSpec)

/-- 'skiarealaw05.GraphOrders', WHERE WHAT IT READS IS OF BULK AT MOST 1048576: true; the input reads as it did. -/
def graphOrdersUptoRow : OpenClaim := { program := "ytabfjapdbelcoaa", sum := "ec434b754c85e5a4be2ffa1d10f18b68b2562e128db2a94ac36e71343202adf4", func := "skiarea/skiarealaw05.GraphOrders", spec := "graphOrders", unfollowed := true, recurses := true, apart := false, narrowed := true }
def GraphOrdersUptoSaid : Prop := graphOrdersUptoRow.holds Try.pinned (OpenSpec.upto graphOrdersSpec)

/-- 'skiarealaw05.GraphPaths', WHERE WHAT IT READS IS OF BULK AT MOST 1048576: true; the input reads as it did. -/
def graphPathsUptoRow : OpenClaim := { program := "ytabfjapdbelcoaa", sum := "ec434b754c85e5a4be2ffa1d10f18b68b2562e128db2a94ac36e71343202adf4", func := "skiarea/skiarealaw05.GraphPaths", spec := "graphPaths", unfollowed := true, recurses := true, apart := false, narrowed := true }
def GraphPathsUptoSaid : Prop := graphPathsUptoRow.holds Try.pinned (OpenSpec.upto graphPathsSpec)

/-- 'skiarealaw05.GraphShortest', WHERE WHAT IT READS IS OF BULK AT MOST 1048576: true; the input reads as it did. -/
def graphShortestUptoRow : OpenClaim := { program := "ytabfjapdbelcoaa", sum := "ec434b754c85e5a4be2ffa1d10f18b68b2562e128db2a94ac36e71343202adf4", func := "skiarea/skiarealaw05.GraphShortest", spec := "graphShortest", unfollowed := true, recurses := true, apart := false, narrowed := true }
def GraphShortestUptoSaid : Prop := graphShortestUptoRow.holds Try.pinned (OpenSpec.upto graphShortestSpec)

/-- 'skiarealaw05.GraphLater', WHERE WHAT IT READS IS OF BULK AT MOST 1048576: true; the input reads as it did. -/
def graphLaterUptoRow : OpenClaim := { program := "ytabfjapdbelcoaa", sum := "ec434b754c85e5a4be2ffa1d10f18b68b2562e128db2a94ac36e71343202adf4", func := "skiarea/skiarealaw05.GraphLater", spec := "graphLater", unfollowed := true, recurses := true, apart := false, narrowed := true }
def GraphLaterUptoSaid : Prop := graphLaterUptoRow.holds Try.pinned (OpenSpec.upto graphLaterSpec)

/-- 'skiarealaw05.GraphTurned', WHERE WHAT IT READS IS OF BULK AT MOST 1048576: true; the input reads as it did. -/
def graphTurnedUptoRow : OpenClaim := { program := "ytabfjapdbelcoaa", sum := "ec434b754c85e5a4be2ffa1d10f18b68b2562e128db2a94ac36e71343202adf4", func := "skiarea/skiarealaw05.GraphTurned", spec := "graphTurned", unfollowed := true, recurses := true, apart := false, narrowed := true }
def GraphTurnedUptoSaid : Prop := graphTurnedUptoRow.holds Try.pinned (OpenSpec.upto graphTurnedSpec)

/-- 'skiarealaw05.GraphFewer', WHERE WHAT IT READS IS OF BULK AT MOST 1048576: true; the input reads as it did. -/
def graphFewerUptoRow : OpenClaim := { program := "ytabfjapdbelcoaa", sum := "ec434b754c85e5a4be2ffa1d10f18b68b2562e128db2a94ac36e71343202adf4", func := "skiarea/skiarealaw05.GraphFewer", spec := "graphFewer", unfollowed := true, recurses := true, apart := false, narrowed := true }
def GraphFewerUptoSaid : Prop := graphFewerUptoRow.holds Try.pinned (OpenSpec.upto graphFewerSpec)

end Rows
end Go.Proofs.Ytabfjapdbelcoaa
