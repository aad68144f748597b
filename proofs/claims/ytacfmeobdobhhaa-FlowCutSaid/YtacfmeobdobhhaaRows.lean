/-
  No cell of these rows narrows 'for every input' (looked for: loops, veiled, ifaces, maps, wideKeys, modest, calm, conditions, laid).
  DERIVED. THE GIVEN ROWS OF THIS SEAT. 8 by the template 'for every input the law returns true; each argument reads behind the call as it read before'; 0 by the template 'total and deterministic' (their statements: YtacfmeobdobhhaaTotals.lean).
  GIVEN WITH THE SEED: the statements are not yours to turn. If you find one false, say at which input.
  Laid BY PROGRAM, IN A SANDBOX (cutbox-rows.mjs): the forced cells as the released guide's own fill.sh prints them over the translation e2ea947feacf1a5c… (all of the seat's roots in one cut). By AI agents, Wed Nov 11 2026. No macro, syntax, notation, axiom, sorry.
-/
import Derived.Test.YtacfmeobdobhhaaChecked
import GoSem.Claim
import GoSem.ClaimJoined
import GoSem.ClaimMapViews
import Derived.JoinedTies
import Derived.KernelRfl
namespace Go.Proofs.Ytacfmeobdobhhaa
/- THE CELL 'sum', in the pinned program and in every row, IS THE sha256 OF THE DUMP (.gsa) THAT YtacfmeobdobhhaaProg.lean LOADS. Nothing in Lean hashes anything: it is a label: what it is worth is what the hold of that sum in a sandbox is worth. -/
noncomputable def Try.pinned : Pinned := { name := "ytacfmeobdobhhaa", sum := "e2ea947feacf1a5c14424b2d189ccaa89ca4035a101324b91d8aebea333cc324", checked := Try.checked }
namespace Rows
def none {H : Type} : Left H := { results := [], args := [] }

/-- 'skiarealaw06.FlowValid': WHATEVER THE INPUT: true; the input reads as it did. -/
def flowValidSpec : ChangeSpec := { name := "flowValid", fn := fun _ => fun
  | [d1, d2, d3, d4] => { results := [.lit (.bool true)], args := [d1, d2, d3, d4] }
  | _ => none }
def flowValidRow : OpenClaim := { program := "ytacfmeobdobhhaa", sum := "e2ea947feacf1a5c14424b2d189ccaa89ca4035a101324b91d8aebea333cc324", func := "skiarea/skiarealaw06.FlowValid", spec := "flowValid", unfollowed := true, recurses := true, apart := false }
def FlowValidSaid : Prop := flowValidRow.holds Try.pinned (OpenSpec.ofChange flowValidSpec)

/-- ITS FALSE NEIGHBOUR: 'it returns false'. Refute it at one input. -/
def flowValidWrong : ChangeSpec := { name := "flowValid", fn := fun _ => fun
  | [d1, d2, d3, d4] => { results := [.lit (.bool false)], args := [d1, d2, d3, d4] }
  | _ => none }
def FlowValidWrongFalsely : Prop := flowValidRow.holds Try.pinned (OpenSpec.ofChange flowValidWrong)

/-- 'skiarealaw06.FlowMax': WHATEVER THE INPUT: true; the input reads as it did. -/
def flowMaxSpec : ChangeSpec := { name := "flowMax", fn := fun _ => fun
  | [d1, d2, d3] => { results := [.lit (.bool true)], args := [d1, d2, d3] }
  | _ => none }
def flowMaxRow : OpenClaim := { program := "ytacfmeobdobhhaa", sum := "e2ea947feacf1a5c14424b2d189ccaa89ca4035a101324b91d8aebea333cc324", func := "skiarea/skiarealaw06.FlowMax", spec := "flowMax", unfollowed := true, recurses := true, apart := false }
def FlowMaxSaid : Prop := flowMaxRow.holds Try.pinned (OpenSpec.ofChange flowMaxSpec)

/-- ITS FALSE NEIGHBOUR: 'it returns false'. Refute it at one input. -/
def flowMaxWrong : ChangeSpec := { name := "flowMax", fn := fun _ => fun
  | [d1, d2, d3] => { results := [.lit (.bool false)], args := [d1, d2, d3] }
  | _ => none }
def FlowMaxWrongFalsely : Prop := flowMaxRow.holds Try.pinned (OpenSpec.ofChange flowMaxWrong)

/-- 'skiarealaw06.FlowFinds': WHATEVER THE INPUT: true; the input reads as it did. -/
def flowFindsSpec : ChangeSpec := { name := "flowFinds", fn := fun _ => fun
  | [d1, d2, d3] => { results := [.lit (.bool true)], args := [d1, d2, d3] }
  | _ => none }
def flowFindsRow : OpenClaim := { program := "ytacfmeobdobhhaa", sum := "e2ea947feacf1a5c14424b2d189ccaa89ca4035a101324b91d8aebea333cc324", func := "skiarea/skiarealaw06.FlowFinds", spec := "flowFinds", unfollowed := true, recurses := true, apart := false }
def FlowFindsSaid : Prop := flowFindsRow.holds Try.pinned (OpenSpec.ofChange flowFindsSpec)

/-- ITS FALSE NEIGHBOUR: 'it returns false'. Refute it at one input. -/
def flowFindsWrong : ChangeSpec := { name := "flowFinds", fn := fun _ => fun
  | [d1, d2, d3] => { results := [.lit (.bool false)], args := [d1, d2, d3] }
  | _ => none }
def FlowFindsWrongFalsely : Prop := flowFindsRow.holds Try.pinned (OpenSpec.ofChange flowFindsWrong)

/-- 'skiarealaw06.FlowCuts': WHATEVER THE INPUT: true; the input reads as it did. -/
def flowCutsSpec : ChangeSpec := { name := "flowCuts", fn := fun _ => fun
  | [d1, d2, d3] => { results := [.lit (.bool true)], args := [d1, d2, d3] }
  | _ => none }
def flowCutsRow : OpenClaim := { program := "ytacfmeobdobhhaa", sum := "e2ea947feacf1a5c14424b2d189ccaa89ca4035a101324b91d8aebea333cc324", func := "skiarea/skiarealaw06.FlowCuts", spec := "flowCuts", unfollowed := true, recurses := true, apart := false }
def FlowCutsSaid : Prop := flowCutsRow.holds Try.pinned (OpenSpec.ofChange flowCutsSpec)

/-- ITS FALSE NEIGHBOUR: 'it returns false'. Refute it at one input. -/
def flowCutsWrong : ChangeSpec := { name := "flowCuts", fn := fun _ => fun
  | [d1, d2, d3] => { results := [.lit (.bool false)], args := [d1, d2, d3] }
  | _ => none }
def FlowCutsWrongFalsely : Prop := flowCutsRow.holds Try.pinned (OpenSpec.ofChange flowCutsWrong)

/-- 'skiarealaw06.FlowBounds': WHATEVER THE INPUT: true; the input reads as it did. -/
def flowBoundsSpec : ChangeSpec := { name := "flowBounds", fn := fun _ => fun
  | [d1, d2, d3, d4, d5] => { results := [.lit (.bool true)], args := [d1, d2, d3, d4, d5] }
  | _ => none }
def flowBoundsRow : OpenClaim := { program := "ytacfmeobdobhhaa", sum := "e2ea947feacf1a5c14424b2d189ccaa89ca4035a101324b91d8aebea333cc324", func := "skiarea/skiarealaw06.FlowBounds", spec := "flowBounds", unfollowed := true, recurses := true, apart := false }
def FlowBoundsSaid : Prop := flowBoundsRow.holds Try.pinned (OpenSpec.ofChange flowBoundsSpec)

/-- ITS FALSE NEIGHBOUR: 'it returns false'. Refute it at one input. -/
def flowBoundsWrong : ChangeSpec := { name := "flowBounds", fn := fun _ => fun
  | [d1, d2, d3, d4, d5] => { results := [.lit (.bool false)], args := [d1, d2, d3, d4, d5] }
  | _ => none }
def FlowBoundsWrongFalsely : Prop := flowBoundsRow.holds Try.pinned (OpenSpec.ofChange flowBoundsWrong)

/-- 'skiarealaw06.FlowGrows': WHATEVER THE INPUT: true; the input reads as it did. -/
def flowGrowsSpec : ChangeSpec := { name := "flowGrows", fn := fun _ => fun
  | [d1, d2, d3, d4, d5] => { results := [.lit (.bool true)], args := [d1, d2, d3, d4, d5] }
  | _ => none }
def flowGrowsRow : OpenClaim := { program := "ytacfmeobdobhhaa", sum := "e2ea947feacf1a5c14424b2d189ccaa89ca4035a101324b91d8aebea333cc324", func := "skiarea/skiarealaw06.FlowGrows", spec := "flowGrows", unfollowed := true, recurses := true, apart := false }
def FlowGrowsSaid : Prop := flowGrowsRow.holds Try.pinned (OpenSpec.ofChange flowGrowsSpec)

/-- ITS FALSE NEIGHBOUR: 'it returns false'. Refute it at one input. -/
def flowGrowsWrong : ChangeSpec := { name := "flowGrows", fn := fun _ => fun
  | [d1, d2, d3, d4, d5] => { results := [.lit (.bool false)], args := [d1, d2, d3, d4, d5] }
  | _ => none }
def FlowGrowsWrongFalsely : Prop := flowGrowsRow.holds Try.pinned (OpenSpec.ofChange flowGrowsWrong)

/-- 'skiarealaw06.FlowTurned': WHATEVER THE INPUT: true; the input reads as it did. -/
def flowTurnedSpec : ChangeSpec := { name := "flowTurned", fn := fun _ => fun
  | [d1, d2, d3] => { results := [.lit (.bool true)], args := [d1, d2, d3] }
  | _ => none }
def flowTurnedRow : OpenClaim := { program := "ytacfmeobdobhhaa", sum := "e2ea947feacf1a5c14424b2d189ccaa89ca4035a101324b91d8aebea333cc324", func := "skiarea/skiarealaw06.FlowTurned", spec := "flowTurned", unfollowed := true, recurses := true, apart := false }
def FlowTurnedSaid : Prop := flowTurnedRow.holds Try.pinned (OpenSpec.ofChange flowTurnedSpec)

/-- ITS FALSE NEIGHBOUR: 'it returns false'. Refute it at one input. -/
def flowTurnedWrong : ChangeSpec := { name := "flowTurned", fn := fun _ => fun
  | [d1, d2, d3] => { results := [.lit (.bool false)], args := [d1, d2, d3] }
  | _ => none }
def FlowTurnedWrongFalsely : Prop := flowTurnedRow.holds Try.pinned (OpenSpec.ofChange flowTurnedWrong)

/-- 'skiarealaw06.FlowCut': WHATEVER THE INPUT: true; the input reads as it did. -/
def flowCutSpec : ChangeSpec := { name := "flowCut", fn := fun _ => fun
  | [d1, d2, d3] => { results := [.lit (.bool true)], args := [d1, d2, d3] }
  | _ => none }
def flowCutRow : OpenClaim := { program := "ytacfmeobdobhhaa", sum := "e2ea947feacf1a5c14424b2d189ccaa89ca4035a101324b91d8aebea333cc324", func := "skiarea/skiarealaw06.FlowCut", spec := "flowCut", unfollowed := true, recurses := true, apart := false }
def FlowCutSaid : Prop := flowCutRow.holds Try.pinned (OpenSpec.ofChange flowCutSpec)

/-- ITS FALSE NEIGHBOUR: 'it returns false'. Refute it at one input. -/
def flowCutWrong : ChangeSpec := { name := "flowCut", fn := fun _ => fun
  | [d1, d2, d3] => { results := [.lit (.bool false)], args := [d1, d2, d3] }
  | _ => none }
def FlowCutWrongFalsely : Prop := flowCutRow.holds Try.pinned (OpenSpec.ofChange flowCutWrong)

/- THE SECOND FORM. 'bulk': how many values and letters a reading holds, each counted each time it is reached (what is shared counts as often as it is met; a slice's spare places count too). A statement '..UptoSaid' is the law's where the arguments, and the package variables that the reading takes, are together of bulk at most 1048576: NARROWER than '..Said'. Prove '..Said' where nothing that the law and all that it calls make is longer than what came in: it says more and counts as full. Else prove '..UptoSaid'. A law counts once. -/
mutual
def uptoBulk {H : Type} : DataW H → Nat
  | .lit (.string bytes) => bytes.length + 1
  | .lit _ => 1
  | .nil => 1
  | .ptr d => uptoBulk d + 1
  | .slice elems spare => uptoBulkAll elems + uptoBulkAll spare + 1
  | .agg parts => uptoBulkAll parts + 1
  | .iface _ d => uptoBulk d + 1
  | .map entries => uptoBulkEntries entries + 1
  | .held _ => 1
def uptoBulkAll {H : Type} : List (DataW H) → Nat
  | [] => 0
  | d :: r => uptoBulk d + uptoBulkAll r
def uptoBulkEntries {H : Type} : List (Lit × DataW H) → Nat
  | [] => 0
  | x :: r => uptoBulkEntry x + uptoBulkEntries r
def uptoBulkEntry {H : Type} : Lit × DataW H → Nat
  | (.string bytes, d) => bytes.length + uptoBulk d + 1
  | (_, d) => uptoBulk d + 1
 end
def uptoSmall : (H : Type) → List (DataW H) → Bool := fun _ ds => decide (uptoBulkAll ds ≤ 1048576)
def OpenSpec.upto (s : _root_.Go.ChangeSpec) : _root_.Go.OpenSpec := { _root_.Go.OpenSpec.ofChange s with cond := some uptoSmall }

/-- 'skiarealaw06.FlowValid', WHERE WHAT IT READS IS OF BULK AT MOST 1048576: true; the input reads as it did. -/
def flowValidUptoRow : OpenClaim := { program := "ytacfmeobdobhhaa", sum := "e2ea947feacf1a5c14424b2d189ccaa89ca4035a101324b91d8aebea333cc324", func := "skiarea/skiarealaw06.FlowValid", spec := "flowValid", unfollowed := true, recurses := true, apart := false, narrowed := true }
def FlowValidUptoSaid : Prop := flowValidUptoRow.holds Try.pinned (OpenSpec.upto flowValidSpec)

/-- 'skiarealaw06.FlowMax', WHERE WHAT IT READS IS OF BULK AT MOST 1048576: true; the input reads as it did. -/
def flowMaxUptoRow : OpenClaim := { program := "ytacfmeobdobhhaa", sum := "e2ea947feacf1a5c14424b2d189ccaa89ca4035a101324b91d8aebea333cc324", func := "skiarea/skiarealaw06.FlowMax", spec := "flowMax", unfollowed := true, recurses := true, apart := false, narrowed := true }
def FlowMaxUptoSaid : Prop := flowMaxUptoRow.holds Try.pinned (OpenSpec.upto flowMaxSpec)

/-- 'skiarealaw06.FlowFinds', WHERE WHAT IT READS IS OF BULK AT MOST 1048576: true; the input reads as it did. -/
def flowFindsUptoRow : OpenClaim := { program := "ytacfmeobdobhhaa", sum := "e2ea947feacf1a5c14424b2d189ccaa89ca4035a101324b91d8aebea333cc324", func := "skiarea/skiarealaw06.FlowFinds", spec := "flowFinds", unfollowed := true, recurses := true, apart := false, narrowed := true }
def FlowFindsUptoSaid : Prop := flowFindsUptoRow.holds Try.pinned (OpenSpec.upto flowFindsSpec)

/-- 'skiarealaw06.FlowCuts', WHERE WHAT IT READS IS OF BULK AT MOST 1048576: true; the input reads as it did. -/
def flowCutsUptoRow : OpenClaim := { program := "ytacfmeobdobhhaa", sum := "e2ea947feacf1a5c14424b2d189ccaa89ca4035a101324b91d8aebea333cc324", func := "skiarea/skiarealaw06.FlowCuts", spec := "flowCuts", unfollowed := true, recurses := true, apart := false, narrowed := true }
def FlowCutsUptoSaid : Prop := flowCutsUptoRow.holds Try.pinned (OpenSpec.upto flowCutsSpec)

/-- 'skiarealaw06.FlowBounds', WHERE WHAT IT READS IS OF BULK AT MOST 1048576: true; the input reads as it did. -/
def flowBoundsUptoRow : OpenClaim := { program := "ytacfmeobdobhhaa", sum := "e2ea947feacf1a5c14424b2d189ccaa89ca4035a101324b91d8aebea333cc324", func := "skiarea/skiarealaw06.FlowBounds", spec := "flowBounds", unfollowed := true, recurses := true, apart := false, narrowed := true }
def FlowBoundsUptoSaid : Prop := flowBoundsUptoRow.holds Try.pinned (OpenSpec.upto flowBoundsSpec)

/-- 'skiarealaw06.FlowGrows', WHERE WHAT IT READS IS OF BULK AT MOST 1048576: true; the input reads as it did. -/
def flowGrowsUptoRow : OpenClaim := { program := "ytacfmeobdobhhaa", sum := "e2ea947feacf1a5c14424b2d189ccaa89ca4035a101324b91d8aebea333cc324", func := "skiarea/skiarealaw06.FlowGrows", spec := "flowGrows", unfollowed := true, recurses := true, apart := false, narrowed := true }
def FlowGrowsUptoSaid : Prop := flowGrowsUptoRow.holds Try.pinned (OpenSpec.upto flowGrowsSpec)

/-- 'skiarealaw06.FlowTurned', WHERE WHAT IT READS IS OF BULK AT MOST 1048576: true; the input reads as it did. -/
def flowTurnedUptoRow : OpenClaim := { program := "ytacfmeobdobhhaa", sum := "e2ea947feacf1a5c14424b2d189ccaa89ca4035a101324b91d8aebea333cc324", func := "skiarea/skiarealaw06.FlowTurned", spec := "flowTurned", unfollowed := true, recurses := true, apart := false, narrowed := true }
def FlowTurnedUptoSaid : Prop := flowTurnedUptoRow.holds Try.pinned (OpenSpec.upto flowTurnedSpec)

/-- 'skiarealaw06.FlowCut', WHERE WHAT IT READS IS OF BULK AT MOST 1048576: true; the input reads as it did. -/
def flowCutUptoRow : OpenClaim := { program := "ytacfmeobdobhhaa", sum := "e2ea947feacf1a5c14424b2d189ccaa89ca4035a101324b91d8aebea333cc324", func := "skiarea/skiarealaw06.FlowCut", spec := "flowCut", unfollowed := true, recurses := true, apart := false, narrowed := true }
def FlowCutUptoSaid : Prop := flowCutUptoRow.holds Try.pinned (OpenSpec.upto flowCutSpec)

end Rows
end Go.Proofs.Ytacfmeobdobhhaa
