/-
  No cell of these rows narrows 'for every input' (looked for: loops, veiled, ifaces, maps, wideKeys, modest, calm, conditions, laid).
  DERIVED. THE GIVEN ROWS OF THIS SEAT. 8 by the template 'for every input the law returns true; each argument reads behind the call as it read before'; 0 by the template 'total and deterministic' (their statements: YtifkiiglkglhlaaTotals.lean).
  GIVEN WITH THE SEED: the statements are not yours to turn. If you find one false, say at which input.
  Laid BY PROGRAM, IN A SANDBOX (cutbox-rows.mjs): the forced cells as the released guide's own fill.sh prints them over the translation 463aeeecba6e80fe… (all of the seat's roots in one cut). By AI agents, Wed Nov 11 2026. No macro, syntax, notation, axiom, sorry.
-/
import Derived.Test.YtifkiiglkglhlaaChecked
import GoSem.Claim
import GoSem.ClaimJoined
import GoSem.ClaimMapViews
import Derived.JoinedTies
import Derived.KernelRfl
namespace Go.Proofs.Ytifkiiglkglhlaa
/- THE CELL 'sum', in the pinned program and in every row, IS THE sha256 OF THE DUMP (.gsa) THAT YtifkiiglkglhlaaProg.lean LOADS. Nothing in Lean hashes anything: it is a label: what it is worth is what the hold of that sum in a sandbox is worth. -/
noncomputable def Try.pinned : Pinned := { name := "ytifkiiglkglhlaa", sum := "463aeeecba6e80fe43cfb4077794584ca079d9abc5932a6faba82633c848201d", checked := Try.checked }
namespace Rows
def none {H : Type} : Left H := { results := [], args := [] }

/-- 'skiarealaw10.TerrainChecks': WHATEVER THE INPUT: true; the input reads as it did. -/
def terrainChecksSpec : ChangeSpec := { name := "terrainChecks", fn := fun _ => fun
  | [d] => { results := [.lit (.bool true)], args := [d] }
  | _ => none }
def terrainChecksRow : OpenClaim := { program := "ytifkiiglkglhlaa", sum := "463aeeecba6e80fe43cfb4077794584ca079d9abc5932a6faba82633c848201d", func := "skiarea/skiarealaw10.TerrainChecks", spec := "terrainChecks", apart := false }
def TerrainChecksSaid : Prop := terrainChecksRow.holds Try.pinned (OpenSpec.ofChange terrainChecksSpec)

/-- ITS FALSE NEIGHBOUR: 'it returns false'. Refute it at one input. -/
def terrainChecksWrong : ChangeSpec := { name := "terrainChecks", fn := fun _ => fun
  | [d] => { results := [.lit (.bool false)], args := [d] }
  | _ => none }
def TerrainChecksWrongFalsely : Prop := terrainChecksRow.holds Try.pinned (OpenSpec.ofChange terrainChecksWrong)

/-- 'skiarealaw10.TerrainFinds': WHATEVER THE INPUT: true; the input reads as it did. -/
def terrainFindsSpec : ChangeSpec := { name := "terrainFinds", fn := fun _ => fun
  | [d1, d2] => { results := [.lit (.bool true)], args := [d1, d2] }
  | _ => none }
def terrainFindsRow : OpenClaim := { program := "ytifkiiglkglhlaa", sum := "463aeeecba6e80fe43cfb4077794584ca079d9abc5932a6faba82633c848201d", func := "skiarea/skiarealaw10.TerrainFinds", spec := "terrainFinds", apart := false }
def TerrainFindsSaid : Prop := terrainFindsRow.holds Try.pinned (OpenSpec.ofChange terrainFindsSpec)

/-- ITS FALSE NEIGHBOUR: 'it returns false'. Refute it at one input. -/
def terrainFindsWrong : ChangeSpec := { name := "terrainFinds", fn := fun _ => fun
  | [d1, d2] => { results := [.lit (.bool false)], args := [d1, d2] }
  | _ => none }
def TerrainFindsWrongFalsely : Prop := terrainFindsRow.holds Try.pinned (OpenSpec.ofChange terrainFindsWrong)

/-- 'skiarealaw10.TerrainVertical': WHATEVER THE INPUT: true; the input reads as it did. -/
def terrainVerticalSpec : ChangeSpec := { name := "terrainVertical", fn := fun _ => fun
  | [d1, d2] => { results := [.lit (.bool true)], args := [d1, d2] }
  | _ => none }
def terrainVerticalRow : OpenClaim := { program := "ytifkiiglkglhlaa", sum := "463aeeecba6e80fe43cfb4077794584ca079d9abc5932a6faba82633c848201d", func := "skiarea/skiarealaw10.TerrainVertical", spec := "terrainVertical", apart := false }
def TerrainVerticalSaid : Prop := terrainVerticalRow.holds Try.pinned (OpenSpec.ofChange terrainVerticalSpec)

/-- ITS FALSE NEIGHBOUR: 'it returns false'. Refute it at one input. -/
def terrainVerticalWrong : ChangeSpec := { name := "terrainVertical", fn := fun _ => fun
  | [d1, d2] => { results := [.lit (.bool false)], args := [d1, d2] }
  | _ => none }
def TerrainVerticalWrongFalsely : Prop := terrainVerticalRow.holds Try.pinned (OpenSpec.ofChange terrainVerticalWrong)

/-- 'skiarealaw10.TerrainRuns': WHATEVER THE INPUT: true; the input reads as it did. -/
def terrainRunsSpec : ChangeSpec := { name := "terrainRuns", fn := fun _ => fun
  | [d1, d2] => { results := [.lit (.bool true)], args := [d1, d2] }
  | _ => none }
def terrainRunsRow : OpenClaim := { program := "ytifkiiglkglhlaa", sum := "463aeeecba6e80fe43cfb4077794584ca079d9abc5932a6faba82633c848201d", func := "skiarea/skiarealaw10.TerrainRuns", spec := "terrainRuns", apart := false }
def TerrainRunsSaid : Prop := terrainRunsRow.holds Try.pinned (OpenSpec.ofChange terrainRunsSpec)

/-- ITS FALSE NEIGHBOUR: 'it returns false'. Refute it at one input. -/
def terrainRunsWrong : ChangeSpec := { name := "terrainRuns", fn := fun _ => fun
  | [d1, d2] => { results := [.lit (.bool false)], args := [d1, d2] }
  | _ => none }
def TerrainRunsWrongFalsely : Prop := terrainRunsRow.holds Try.pinned (OpenSpec.ofChange terrainRunsWrong)

/-- 'skiarealaw10.TerrainEdges': WHATEVER THE INPUT: true; the input reads as it did. -/
def terrainEdgesSpec : ChangeSpec := { name := "terrainEdges", fn := fun _ => fun
  | [d1, d2, d3] => { results := [.lit (.bool true)], args := [d1, d2, d3] }
  | _ => none }
def terrainEdgesRow : OpenClaim := { program := "ytifkiiglkglhlaa", sum := "463aeeecba6e80fe43cfb4077794584ca079d9abc5932a6faba82633c848201d", func := "skiarea/skiarealaw10.TerrainEdges", spec := "terrainEdges", apart := false }
def TerrainEdgesSaid : Prop := terrainEdgesRow.holds Try.pinned (OpenSpec.ofChange terrainEdgesSpec)

/-- ITS FALSE NEIGHBOUR: 'it returns false'. Refute it at one input. -/
def terrainEdgesWrong : ChangeSpec := { name := "terrainEdges", fn := fun _ => fun
  | [d1, d2, d3] => { results := [.lit (.bool false)], args := [d1, d2, d3] }
  | _ => none }
def TerrainEdgesWrongFalsely : Prop := terrainEdgesRow.holds Try.pinned (OpenSpec.ofChange terrainEdgesWrong)

/-- 'skiarealaw10.TerrainZones': WHATEVER THE INPUT: true; the input reads as it did. -/
def terrainZonesSpec : ChangeSpec := { name := "terrainZones", fn := fun _ => fun
  | [d] => { results := [.lit (.bool true)], args := [d] }
  | _ => none }
def terrainZonesRow : OpenClaim := { program := "ytifkiiglkglhlaa", sum := "463aeeecba6e80fe43cfb4077794584ca079d9abc5932a6faba82633c848201d", func := "skiarea/skiarealaw10.TerrainZones", spec := "terrainZones", apart := false }
def TerrainZonesSaid : Prop := terrainZonesRow.holds Try.pinned (OpenSpec.ofChange terrainZonesSpec)

/-- ITS FALSE NEIGHBOUR: 'it returns false'. Refute it at one input. -/
def terrainZonesWrong : ChangeSpec := { name := "terrainZones", fn := fun _ => fun
  | [d] => { results := [.lit (.bool false)], args := [d] }
  | _ => none }
def TerrainZonesWrongFalsely : Prop := terrainZonesRow.holds Try.pinned (OpenSpec.ofChange terrainZonesWrong)

/-- 'skiarealaw10.TerrainFewer': WHATEVER THE INPUT: true; the input reads as it did. -/
def terrainFewerSpec : ChangeSpec := { name := "terrainFewer", fn := fun _ => fun
  | [d1, d2] => { results := [.lit (.bool true)], args := [d1, d2] }
  | _ => none }
def terrainFewerRow : OpenClaim := { program := "ytifkiiglkglhlaa", sum := "463aeeecba6e80fe43cfb4077794584ca079d9abc5932a6faba82633c848201d", func := "skiarea/skiarealaw10.TerrainFewer", spec := "terrainFewer", apart := false }
def TerrainFewerSaid : Prop := terrainFewerRow.holds Try.pinned (OpenSpec.ofChange terrainFewerSpec)

/-- ITS FALSE NEIGHBOUR: 'it returns false'. Refute it at one input. -/
def terrainFewerWrong : ChangeSpec := { name := "terrainFewer", fn := fun _ => fun
  | [d1, d2] => { results := [.lit (.bool false)], args := [d1, d2] }
  | _ => none }
def TerrainFewerWrongFalsely : Prop := terrainFewerRow.holds Try.pinned (OpenSpec.ofChange terrainFewerWrong)

/-- 'skiarealaw10.TerrainSlopes': WHATEVER THE INPUT: true; the input reads as it did. -/
def terrainSlopesSpec : ChangeSpec := { name := "terrainSlopes", fn := fun _ => fun
  | [d] => { results := [.lit (.bool true)], args := [d] }
  | _ => none }
def terrainSlopesRow : OpenClaim := { program := "ytifkiiglkglhlaa", sum := "463aeeecba6e80fe43cfb4077794584ca079d9abc5932a6faba82633c848201d", func := "skiarea/skiarealaw10.TerrainSlopes", spec := "terrainSlopes", apart := false }
def TerrainSlopesSaid : Prop := terrainSlopesRow.holds Try.pinned (OpenSpec.ofChange terrainSlopesSpec)

/-- ITS FALSE NEIGHBOUR: 'it returns false'. Refute it at one input. -/
def terrainSlopesWrong : ChangeSpec := { name := "terrainSlopes", fn := fun _ => fun
  | [d] => { results := [.lit (.bool false)], args := [d] }
  | _ => none }
def TerrainSlopesWrongFalsely : Prop := terrainSlopesRow.holds Try.pinned (OpenSpec.ofChange terrainSlopesWrong)

/- THE SECOND FORM. 'bulk': how many values and letters a reading holds, each counted each time it is reached (what is shared counts as often as it is met; a slice's spare places count too). A statement '..UptoSaid' is the law's where the arguments, and the package variables that the reading takes, are together of bulk at most 1048576: NARROWER than '..Said'. Prove '..Said' where nothing that the law and all that it calls make is longer than what came in: it says more and counts as full. Else prove '..UptoSaid'. A law counts once. -/
mutual
def uptoBulk {H : Type} : DataW H → Nat
  | .lit (.string bytes) => bytes.length + 1
  | .lit _ => 1
  | .nil => 1
  | .ptr d => uptoBulk d + 1
  | .slice elems spare => uptoBulkAll elems + uptoBulkAll spare + 1
  | .agg parts => uptoBulkAll parts + 1
  | .iface _ d => uptoBulk d + 1
  | .map entries => uptoBulkEntries entries + 1
  | .held _ => 1
def uptoBulkAll {H : Type} : List (DataW H) → Nat
  | [] => 0
  | d :: r => uptoBulk d + uptoBulkAll r
def uptoBulkEntries {H : Type} : List (Lit × DataW H) → Nat
  | [] => 0
  | x :: r => uptoBulkEntry x + uptoBulkEntries r
def uptoBulkEntry {H : Type} : Lit × DataW H → Nat
  | (.string bytes, d) => bytes.length + uptoBulk d + 1
  | (_, d) => uptoBulk d + 1
 end
def uptoSmall : (H : Type) → List (DataW H) → Bool := fun _ ds => decide (uptoBulkAll ds ≤ 1048576)
def OpenSpec.upto (s : _root_.Go.ChangeSpec) : _root_.Go.OpenSpec := { _root_.Go.OpenSpec.ofChange s with cond := some uptoSmall }

/-- 'skiarealaw10.TerrainChecks', WHERE WHAT IT READS IS OF BULK AT MOST 1048576: true; the input reads as it did. -/
def terrainChecksUptoRow : OpenClaim := { program := "ytifkiiglkglhlaa", sum := "463aeeecba6e80fe43cfb4077794584ca079d9abc5932a6faba82633c848201d", func := "skiarea/skiarealaw10.TerrainChecks", spec := "terrainChecks", apart := false, narrowed := true }
def TerrainChecksUptoSaid : Prop := terrainChecksUptoRow.holds Try.pinned (OpenSpec.upto terrainChecksSpec)

/-- 'skiarealaw10.TerrainFinds', WHERE WHAT IT READS IS OF BULK AT MOST 1048576: true; the input reads as it did. -/
def terrainFindsUptoRow : OpenClaim := { program := "ytifkiiglkglhlaa", sum := "463aeeecba6e80fe43cfb4077794584ca079d9abc5932a6faba82633c848201d", func := "skiarea/skiarealaw10.TerrainFinds", spec := "terrainFinds", apart := false, narrowed := true }
def TerrainFindsUptoSaid : Prop := terrainFindsUptoRow.holds Try.pinned (OpenSpec.upto terrainFindsSpec)

/-- 'skiarealaw10.TerrainVertical', WHERE WHAT IT READS IS OF BULK AT MOST 1048576: true; the input reads as it did. -/
def terrainVerticalUptoRow : OpenClaim := { program := "ytifkiiglkglhlaa", sum := "463aeeecba6e80fe43cfb4077794584ca079d9abc5932a6faba82633c848201d", func := "skiarea/skiarealaw10.TerrainVertical", spec := "terrainVertical", apart := false, narrowed := true }
def TerrainVerticalUptoSaid : Prop := terrainVerticalUptoRow.holds Try.pinned (OpenSpec.upto terrainVerticalSpec)

/-- 'skiarealaw10.TerrainRuns', WHERE WHAT IT READS IS OF BULK AT MOST 1048576: true; the input reads as it did. -/
def terrainRunsUptoRow : OpenClaim := { program := "ytifkiiglkglhlaa", sum := "463aeeecba6e80fe43cfb4077794584ca079d9abc5932a6faba82633c848201d", func := "skiarea/skiarealaw10.TerrainRuns", spec := "terrainRuns", apart := false, narrowed := true }
def TerrainRunsUptoSaid : Prop := terrainRunsUptoRow.holds Try.pinned (OpenSpec.upto terrainRunsSpec)

/-- 'skiarealaw10.TerrainEdges', WHERE WHAT IT READS IS OF BULK AT MOST 1048576: true; the input reads as it did. -/
def terrainEdgesUptoRow : OpenClaim := { program := "ytifkiiglkglhlaa", sum := "463aeeecba6e80fe43cfb4077794584ca079d9abc5932a6faba82633c848201d", func := "skiarea/skiarealaw10.TerrainEdges", spec := "terrainEdges", apart := false, narrowed := true }
def TerrainEdgesUptoSaid : Prop := terrainEdgesUptoRow.holds Try.pinned (OpenSpec.upto terrainEdgesSpec)

/-- 'skiarealaw10.TerrainZones', WHERE WHAT IT READS IS OF BULK AT MOST 1048576: true; the input reads as it did. -/
def terrainZonesUptoRow : OpenClaim := { program := "ytifkiiglkglhlaa", sum := "463aeeecba6e80fe43cfb4077794584ca079d9abc5932a6faba82633c848201d", func := "skiarea/skiarealaw10.TerrainZones", spec := "terrainZones", apart := false, narrowed := true }
def TerrainZonesUptoSaid : Prop := terrainZonesUptoRow.holds Try.pinned (OpenSpec.upto terrainZonesSpec)

/-- 'skiarealaw10.TerrainFewer', WHERE WHAT IT READS IS OF BULK AT MOST 1048576: true; the input reads as it did. -/
def terrainFewerUptoRow : OpenClaim := { program := "ytifkiiglkglhlaa", sum := "463aeeecba6e80fe43cfb4077794584ca079d9abc5932a6faba82633c848201d", func := "skiarea/skiarealaw10.TerrainFewer", spec := "terrainFewer", apart := false, narrowed := true }
def TerrainFewerUptoSaid : Prop := terrainFewerUptoRow.holds Try.pinned (OpenSpec.upto terrainFewerSpec)

/-- 'skiarealaw10.TerrainSlopes', WHERE WHAT IT READS IS OF BULK AT MOST 1048576: true; the input reads as it did. -/
def terrainSlopesUptoRow : OpenClaim := { program := "ytifkiiglkglhlaa", sum := "463aeeecba6e80fe43cfb4077794584ca079d9abc5932a6faba82633c848201d", func := "skiarea/skiarealaw10.TerrainSlopes", spec := "terrainSlopes", apart := false, narrowed := true }
def TerrainSlopesUptoSaid : Prop := terrainSlopesUptoRow.holds Try.pinned (OpenSpec.upto terrainSlopesSpec)

end Rows
end Go.Proofs.Ytifkiiglkglhlaa
