/-
  No cell of these rows narrows 'for every input' (looked for: loops, veiled, ifaces, maps, wideKeys, modest, calm, conditions, laid).
  DERIVED. THE GIVEN ROWS OF THIS SEAT. 7 by the template 'for every input the law returns true; each argument reads behind the call as it read before'; 0 by the template 'total and deterministic' (their statements: YtciaimpdnjpajaaTotals.lean).
  GIVEN WITH THE SEED: the statements are not yours to turn. If you find one false, say at which input.
  Laid BY PROGRAM, IN A SANDBOX (cutbox-rows.mjs): the forced cells as the released guide's own fill.sh prints them over the translation 451ad372b181dba7… (all of the seat's roots in one cut). By AI agents, Wed Nov 11 2026. No macro, syntax, notation, axiom, sorry.
-/
import Derived.Test.YtciaimpdnjpajaaChecked
import GoSem.Claim
import GoSem.ClaimJoined
import GoSem.ClaimMapViews
import Derived.JoinedTies
import Derived.KernelRfl
namespace Go.Proofs.Ytciaimpdnjpajaa
/- THE CELL 'sum', in the pinned program and in every row, IS THE sha256 OF THE DUMP (.gsa) THAT YtciaimpdnjpajaaProg.lean LOADS. Nothing in Lean hashes anything: it is a label: what it is worth is what the hold of that sum in a sandbox is worth. -/
noncomputable def Try.pinned : Pinned := { name := "ytciaimpdnjpajaa", sum := "451ad372b181dba77709562851289911c2c210f1da33e0015d96e67e824aaa19", checked := Try.checked }
namespace Rows
def none {H : Type} : Left H := { results := [], args := [] }

/-- 'skiarealaw50.AvalancheRight': WHATEVER THE INPUT: true; the input reads as it did. -/
def avalancheRightSpec : ChangeSpec := { name := "avalancheRight", fn := fun _ => fun
  | [d] => { results := [.lit (.bool true)], args := [d] }
  | _ => none }
def avalancheRightRow : OpenClaim := { program := "ytciaimpdnjpajaa", sum := "451ad372b181dba77709562851289911c2c210f1da33e0015d96e67e824aaa19", func := "skiarea/skiarealaw50.AvalancheRight", spec := "avalancheRight", unfollowed := true, recurses := true, apart := false }
def AvalancheRightSaid : Prop := avalancheRightRow.holds Try.pinned (OpenSpec.ofChange avalancheRightSpec)

/-- ITS FALSE NEIGHBOUR: 'it returns false'. Refute it at one input. -/
def avalancheRightWrong : ChangeSpec := { name := "avalancheRight", fn := fun _ => fun
  | [d] => { results := [.lit (.bool false)], args := [d] }
  | _ => none }
def AvalancheRightWrongFalsely : Prop := avalancheRightRow.holds Try.pinned (OpenSpec.ofChange avalancheRightWrong)

/-- 'skiarealaw50.AvalancheLoads': WHATEVER THE INPUT: true; the input reads as it did. -/
def avalancheLoadsSpec : ChangeSpec := { name := "avalancheLoads", fn := fun _ => fun
  | [d1, d2, d3] => { results := [.lit (.bool true)], args := [d1, d2, d3] }
  | _ => none }
def avalancheLoadsRow : OpenClaim := { program := "ytciaimpdnjpajaa", sum := "451ad372b181dba77709562851289911c2c210f1da33e0015d96e67e824aaa19", func := "skiarea/skiarealaw50.AvalancheLoads", spec := "avalancheLoads", unfollowed := true, recurses := true, apart := false }
def AvalancheLoadsSaid : Prop := avalancheLoadsRow.holds Try.pinned (OpenSpec.ofChange avalancheLoadsSpec)

/-- ITS FALSE NEIGHBOUR: 'it returns false'. Refute it at one input. -/
def avalancheLoadsWrong : ChangeSpec := { name := "avalancheLoads", fn := fun _ => fun
  | [d1, d2, d3] => { results := [.lit (.bool false)], args := [d1, d2, d3] }
  | _ => none }
def AvalancheLoadsWrongFalsely : Prop := avalancheLoadsRow.holds Try.pinned (OpenSpec.ofChange avalancheLoadsWrong)

/-- 'skiarealaw50.AvalancheControls': WHATEVER THE INPUT: true; the input reads as it did. -/
def avalancheControlsSpec : ChangeSpec := { name := "avalancheControls", fn := fun _ => fun
  | [d1, d2, d3] => { results := [.lit (.bool true)], args := [d1, d2, d3] }
  | _ => none }
def avalancheControlsRow : OpenClaim := { program := "ytciaimpdnjpajaa", sum := "451ad372b181dba77709562851289911c2c210f1da33e0015d96e67e824aaa19", func := "skiarea/skiarealaw50.AvalancheControls", spec := "avalancheControls", unfollowed := true, recurses := true, apart := false }
def AvalancheControlsSaid : Prop := avalancheControlsRow.holds Try.pinned (OpenSpec.ofChange avalancheControlsSpec)

/-- ITS FALSE NEIGHBOUR: 'it returns false'. Refute it at one input. -/
def avalancheControlsWrong : ChangeSpec := { name := "avalancheControls", fn := fun _ => fun
  | [d1, d2, d3] => { results := [.lit (.bool false)], args := [d1, d2, d3] }
  | _ => none }
def AvalancheControlsWrongFalsely : Prop := avalancheControlsRow.holds Try.pinned (OpenSpec.ofChange avalancheControlsWrong)

/-- 'skiarealaw50.AvalancheLists': WHATEVER THE INPUT: true; the input reads as it did. -/
def avalancheListsSpec : ChangeSpec := { name := "avalancheLists", fn := fun _ => fun
  | [d1, d2] => { results := [.lit (.bool true)], args := [d1, d2] }
  | _ => none }
def avalancheListsRow : OpenClaim := { program := "ytciaimpdnjpajaa", sum := "451ad372b181dba77709562851289911c2c210f1da33e0015d96e67e824aaa19", func := "skiarea/skiarealaw50.AvalancheLists", spec := "avalancheLists", unfollowed := true, recurses := true, apart := false }
def AvalancheListsSaid : Prop := avalancheListsRow.holds Try.pinned (OpenSpec.ofChange avalancheListsSpec)

/-- ITS FALSE NEIGHBOUR: 'it returns false'. Refute it at one input. -/
def avalancheListsWrong : ChangeSpec := { name := "avalancheLists", fn := fun _ => fun
  | [d1, d2] => { results := [.lit (.bool false)], args := [d1, d2] }
  | _ => none }
def AvalancheListsWrongFalsely : Prop := avalancheListsRow.holds Try.pinned (OpenSpec.ofChange avalancheListsWrong)

/-- 'skiarealaw50.AvalancheGrows': WHATEVER THE INPUT: true; the input reads as it did. -/
def avalancheGrowsSpec : ChangeSpec := { name := "avalancheGrows", fn := fun _ => fun
  | [d1, d2, d3, d4, d5] => { results := [.lit (.bool true)], args := [d1, d2, d3, d4, d5] }
  | _ => none }
def avalancheGrowsRow : OpenClaim := { program := "ytciaimpdnjpajaa", sum := "451ad372b181dba77709562851289911c2c210f1da33e0015d96e67e824aaa19", func := "skiarea/skiarealaw50.AvalancheGrows", spec := "avalancheGrows", unfollowed := true, recurses := true, apart := false }
def AvalancheGrowsSaid : Prop := avalancheGrowsRow.holds Try.pinned (OpenSpec.ofChange avalancheGrowsSpec)

/-- ITS FALSE NEIGHBOUR: 'it returns false'. Refute it at one input. -/
def avalancheGrowsWrong : ChangeSpec := { name := "avalancheGrows", fn := fun _ => fun
  | [d1, d2, d3, d4, d5] => { results := [.lit (.bool false)], args := [d1, d2, d3, d4, d5] }
  | _ => none }
def AvalancheGrowsWrongFalsely : Prop := avalancheGrowsRow.holds Try.pinned (OpenSpec.ofChange avalancheGrowsWrong)

/-- 'skiarealaw50.AvalancheCalm': WHATEVER THE INPUT: true; the input reads as it did. -/
def avalancheCalmSpec : ChangeSpec := { name := "avalancheCalm", fn := fun _ => fun
  | [d1, d2, d3, d4] => { results := [.lit (.bool true)], args := [d1, d2, d3, d4] }
  | _ => none }
def avalancheCalmRow : OpenClaim := { program := "ytciaimpdnjpajaa", sum := "451ad372b181dba77709562851289911c2c210f1da33e0015d96e67e824aaa19", func := "skiarea/skiarealaw50.AvalancheCalm", spec := "avalancheCalm", unfollowed := true, recurses := true, apart := false }
def AvalancheCalmSaid : Prop := avalancheCalmRow.holds Try.pinned (OpenSpec.ofChange avalancheCalmSpec)

/-- ITS FALSE NEIGHBOUR: 'it returns false'. Refute it at one input. -/
def avalancheCalmWrong : ChangeSpec := { name := "avalancheCalm", fn := fun _ => fun
  | [d1, d2, d3, d4] => { results := [.lit (.bool false)], args := [d1, d2, d3, d4] }
  | _ => none }
def AvalancheCalmWrongFalsely : Prop := avalancheCalmRow.holds Try.pinned (OpenSpec.ofChange avalancheCalmWrong)

/-- 'skiarealaw50.AvalancheSteps': WHATEVER THE INPUT: true; the input reads as it did. -/
def avalancheStepsSpec : ChangeSpec := { name := "avalancheSteps", fn := fun _ => fun
  | [d1, d2, d3] => { results := [.lit (.bool true)], args := [d1, d2, d3] }
  | _ => none }
def avalancheStepsRow : OpenClaim := { program := "ytciaimpdnjpajaa", sum := "451ad372b181dba77709562851289911c2c210f1da33e0015d96e67e824aaa19", func := "skiarea/skiarealaw50.AvalancheSteps", spec := "avalancheSteps", unfollowed := true, recurses := true, apart := false }
def AvalancheStepsSaid : Prop := avalancheStepsRow.holds Try.pinned (OpenSpec.ofChange avalancheStepsSpec)

/-- ITS FALSE NEIGHBOUR: 'it returns false'. Refute it at one input. -/
def avalancheStepsWrong : ChangeSpec := { name := "avalancheSteps", fn := fun _ => fun
  | [d1, d2, d3] => { results := [.lit (.bool false)], args := [d1, d2, d3] }
  | _ => none }
def AvalancheStepsWrongFalsely : Prop := avalancheStepsRow.holds Try.pinned (OpenSpec.ofChange avalancheStepsWrong)

/- THE SECOND FORM. 'bulk': how many values and letters a reading holds, each counted each time it is reached (what is shared counts as often as it is met; a slice's spare places count too). A statement '..UptoSaid' is the law's where the arguments, and the package variables that the reading takes, are together of bulk at most 1048576: NARROWER than '..Said'. Prove '..Said' where nothing that the law and all that it calls make is longer than what came in: it says more and counts as full. Else prove '..UptoSaid'. A law counts once. -/
mutual
def uptoBulk {H : Type} : DataW H → Nat
  | .lit (.string bytes) => bytes.length + 1
  | .lit _ => 1
  | .nil => 1
  | .ptr d => uptoBulk d + 1
  | .slice elems spare => uptoBulkAll elems + uptoBulkAll spare + 1
  | .agg parts => uptoBulkAll parts + 1
  | .iface _ d => uptoBulk d + 1
  | .map entries => uptoBulkEntries entries + 1
  | .held _ => 1
def uptoBulkAll {H : Type} : List (DataW H) → Nat
  | [] => 0
  | d :: r => uptoBulk d + uptoBulkAll r
def uptoBulkEntries {H : Type} : List (Lit × DataW H) → Nat
  | [] => 0
  | x :: r => uptoBulkEntry x + uptoBulkEntries r
def uptoBulkEntry {H : Type} : Lit × DataW H → Nat
  | (.string bytes, d) => bytes.length + uptoBulk d + 1
  | (_, d) => uptoBulk d + 1
 end
def uptoSmall : (H : Type) → List (DataW H) → Bool := fun _ ds => decide (uptoBulkAll ds ≤ 1048576)
def OpenSpec.upto (s : _root_.Go.ChangeSpec) : _root_.Go.OpenSpec := { _root_.Go.OpenSpec.ofChange s with cond := some uptoSmall }

/-- 'skiarealaw50.AvalancheRight', WHERE WHAT IT READS IS OF BULK AT MOST 1048576: true; the input reads as it did. -/
def avalancheRightUptoRow : OpenClaim := { program := "ytciaimpdnjpajaa", sum := "451ad372b181dba77709562851289911c2c210f1da33e0015d96e67e824aaa19", func := "skiarea/skiarealaw50.AvalancheRight", spec := "avalancheRight", unfollowed := true, recurses := true, apart := false, narrowed := true }
def AvalancheRightUptoSaid : Prop := avalancheRightUptoRow.holds Try.pinned (OpenSpec.upto avalancheRightSpec)

/-- 'skiarealaw50.AvalancheLoads', WHERE WHAT IT READS IS OF BULK AT MOST 1048576: true; the input reads as it did. -/
def avalancheLoadsUptoRow : OpenClaim := { program := "ytciaimpdnjpajaa", sum := "451ad372b181dba77709562851289911c2c210f1da33e0015d96e67e824aaa19", func := "skiarea/skiarealaw50.AvalancheLoads", spec := "avalancheLoads", unfollowed := true, recurses := true, apart := false, narrowed := true }
def AvalancheLoadsUptoSaid : Prop := avalancheLoadsUptoRow.holds Try.pinned (OpenSpec.upto avalancheLoadsSpec)

/-- 'skiarealaw50.AvalancheControls', WHERE WHAT IT READS IS OF BULK AT MOST 1048576: true; the input reads as it did. -/
def avalancheControlsUptoRow : OpenClaim := { program := "ytciaimpdnjpajaa", sum := "451ad372b181dba77709562851289911c2c210f1da33e0015d96e67e824aaa19", func := "skiarea/skiarealaw50.AvalancheControls", spec := "avalancheControls", unfollowed := true, recurses := true, apart := false, narrowed := true }
def AvalancheControlsUptoSaid : Prop := avalancheControlsUptoRow.holds Try.pinned (OpenSpec.upto avalancheControlsSpec)

/-- 'skiarealaw50.AvalancheLists', WHERE WHAT IT READS IS OF BULK AT MOST 1048576: true; the input reads as it did. -/
def avalancheListsUptoRow : OpenClaim := { program := "ytciaimpdnjpajaa", sum := "451ad372b181dba77709562851289911c2c210f1da33e0015d96e67e824aaa19", func := "skiarea/skiarealaw50.AvalancheLists", spec := "avalancheLists", unfollowed := true, recurses := true, apart := false, narrowed := true }
def AvalancheListsUptoSaid : Prop := avalancheListsUptoRow.holds Try.pinned (OpenSpec.upto avalancheListsSpec)

/-- 'skiarealaw50.AvalancheGrows', WHERE WHAT IT READS IS OF BULK AT MOST 1048576: true; the input reads as it did. -/
def avalancheGrowsUptoRow : OpenClaim := { program := "ytciaimpdnjpajaa", sum := "451ad372b181dba77709562851289911c2c210f1da33e0015d96e67e824aaa19", func := "skiarea/skiarealaw50.AvalancheGrows", spec := "avalancheGrows", unfollowed := true, recurses := true, apart := false, narrowed := true }
def AvalancheGrowsUptoSaid : Prop := avalancheGrowsUptoRow.holds Try.pinned (OpenSpec.upto avalancheGrowsSpec)

/-- 'skiarealaw50.AvalancheCalm', WHERE WHAT IT READS IS OF BULK AT MOST 1048576: true; the input reads as it did. -/
def avalancheCalmUptoRow : OpenClaim := { program := "ytciaimpdnjpajaa", sum := "451ad372b181dba77709562851289911c2c210f1da33e0015d96e67e824aaa19", func := "skiarea/skiarealaw50.AvalancheCalm", spec := "avalancheCalm", unfollowed := true, recurses := true, apart := false, narrowed := true }
def AvalancheCalmUptoSaid : Prop := avalancheCalmUptoRow.holds Try.pinned (OpenSpec.upto avalancheCalmSpec)

/-- 'skiarealaw50.AvalancheSteps', WHERE WHAT IT READS IS OF BULK AT MOST 1048576: true; the input reads as it did. -/
def avalancheStepsUptoRow : OpenClaim := { program := "ytciaimpdnjpajaa", sum := "451ad372b181dba77709562851289911c2c210f1da33e0015d96e67e824aaa19", func := "skiarea/skiarealaw50.AvalancheSteps", spec := "avalancheSteps", unfollowed := true, recurses := true, apart := false, narrowed := true }
def AvalancheStepsUptoSaid : Prop := avalancheStepsUptoRow.holds Try.pinned (OpenSpec.upto avalancheStepsSpec)

end Rows
end Go.Proofs.Ytciaimpdnjpajaa
