/-
  No cell of these rows narrows 'for every input' (looked for: loops, veiled, ifaces, maps, wideKeys, modest, calm, conditions, laid).
  DERIVED. THE GIVEN ROWS OF THIS SEAT. 7 by the template 'for every input the law returns true; each argument reads behind the call as it read before'; 0 by the template 'total and deterministic' (their statements: YtnafejjdhdpanaaTotals.lean).
  GIVEN WITH THE SEED: the statements are not yours to turn. If you find one false, say at which input.
  Laid BY PROGRAM, IN A SANDBOX (cutbox-rows.mjs): the forced cells as the released guide's own fill.sh prints them over the translation 7fe26c5bd9b98a71… (all of the seat's roots in one cut). By AI agents, Wed Nov 11 2026. No macro, syntax, notation, axiom, sorry.
-/
import Derived.Test.YtnafejjdhdpanaaChecked
import GoSem.Claim
import GoSem.ClaimJoined
import GoSem.ClaimMapViews
import Derived.JoinedTies
import Derived.KernelRfl
namespace Go.Proofs.Ytnafejjdhdpanaa
/- THE CELL 'sum', in the pinned program and in every row, IS THE sha256 OF THE DUMP (.gsa) THAT YtnafejjdhdpanaaProg.lean LOADS. Nothing in Lean hashes anything: it is a label: what it is worth is what the hold of that sum in a sandbox is worth. -/
noncomputable def Try.pinned : Pinned := { name := "ytnafejjdhdpanaa", sum := "7fe26c5bd9b98a717aa3acb8f04f4278e40978b7d5ad446f993ea0dbf04be422", checked := Try.checked }
namespace Rows
def none {H : Type} : Left H := { results := [], args := [] }

/-- 'skiarealaw11.WaysReaches': WHATEVER THE INPUT: true; the input reads as it did. -/
def waysReachesSpec : ChangeSpec := { name := "waysReaches", fn := fun _ => fun
  | [d] => { results := [.lit (.bool true)], args := [d] }
  | _ => none }
def waysReachesRow : OpenClaim := { program := "ytnafejjdhdpanaa", sum := "7fe26c5bd9b98a717aa3acb8f04f4278e40978b7d5ad446f993ea0dbf04be422", func := "skiarea/skiarealaw11.WaysReaches", spec := "waysReaches", unfollowed := true, recurses := true, apart := false }
def WaysReachesSaid : Prop := waysReachesRow.holds Try.pinned (OpenSpec.ofChange waysReachesSpec)

/-- ITS FALSE NEIGHBOUR: 'it returns false'. Refute it at one input. -/
def waysReachesWrong : ChangeSpec := { name := "waysReaches", fn := fun _ => fun
  | [d] => { results := [.lit (.bool false)], args := [d] }
  | _ => none }
def WaysReachesWrongFalsely : Prop := waysReachesRow.holds Try.pinned (OpenSpec.ofChange waysReachesWrong)

/-- 'skiarealaw11.WaysShortest': WHATEVER THE INPUT: true; the input reads as it did. -/
def waysShortestSpec : ChangeSpec := { name := "waysShortest", fn := fun _ => fun
  | [d1, d2] => { results := [.lit (.bool true)], args := [d1, d2] }
  | _ => none }
def waysShortestRow : OpenClaim := { program := "ytnafejjdhdpanaa", sum := "7fe26c5bd9b98a717aa3acb8f04f4278e40978b7d5ad446f993ea0dbf04be422", func := "skiarea/skiarealaw11.WaysShortest", spec := "waysShortest", unfollowed := true, recurses := true, apart := false }
def WaysShortestSaid : Prop := waysShortestRow.holds Try.pinned (OpenSpec.ofChange waysShortestSpec)

/-- ITS FALSE NEIGHBOUR: 'it returns false'. Refute it at one input. -/
def waysShortestWrong : ChangeSpec := { name := "waysShortest", fn := fun _ => fun
  | [d1, d2] => { results := [.lit (.bool false)], args := [d1, d2] }
  | _ => none }
def WaysShortestWrongFalsely : Prop := waysShortestRow.holds Try.pinned (OpenSpec.ofChange waysShortestWrong)

/-- 'skiarealaw11.WaysNeeds': WHATEVER THE INPUT: true; the input reads as it did. -/
def waysNeedsSpec : ChangeSpec := { name := "waysNeeds", fn := fun _ => fun
  | [d1, d2] => { results := [.lit (.bool true)], args := [d1, d2] }
  | _ => none }
def waysNeedsRow : OpenClaim := { program := "ytnafejjdhdpanaa", sum := "7fe26c5bd9b98a717aa3acb8f04f4278e40978b7d5ad446f993ea0dbf04be422", func := "skiarea/skiarealaw11.WaysNeeds", spec := "waysNeeds", unfollowed := true, recurses := true, apart := false }
def WaysNeedsSaid : Prop := waysNeedsRow.holds Try.pinned (OpenSpec.ofChange waysNeedsSpec)

/-- ITS FALSE NEIGHBOUR: 'it returns false'. Refute it at one input. -/
def waysNeedsWrong : ChangeSpec := { name := "waysNeeds", fn := fun _ => fun
  | [d1, d2] => { results := [.lit (.bool false)], args := [d1, d2] }
  | _ => none }
def WaysNeedsWrongFalsely : Prop := waysNeedsRow.holds Try.pinned (OpenSpec.ofChange waysNeedsWrong)

/-- 'skiarealaw11.WaysHome': WHATEVER THE INPUT: true; the input reads as it did. -/
def waysHomeSpec : ChangeSpec := { name := "waysHome", fn := fun _ => fun
  | [d1, d2] => { results := [.lit (.bool true)], args := [d1, d2] }
  | _ => none }
def waysHomeRow : OpenClaim := { program := "ytnafejjdhdpanaa", sum := "7fe26c5bd9b98a717aa3acb8f04f4278e40978b7d5ad446f993ea0dbf04be422", func := "skiarea/skiarealaw11.WaysHome", spec := "waysHome", unfollowed := true, recurses := true, apart := false }
def WaysHomeSaid : Prop := waysHomeRow.holds Try.pinned (OpenSpec.ofChange waysHomeSpec)

/-- ITS FALSE NEIGHBOUR: 'it returns false'. Refute it at one input. -/
def waysHomeWrong : ChangeSpec := { name := "waysHome", fn := fun _ => fun
  | [d1, d2] => { results := [.lit (.bool false)], args := [d1, d2] }
  | _ => none }
def WaysHomeWrongFalsely : Prop := waysHomeRow.holds Try.pinned (OpenSpec.ofChange waysHomeWrong)

/-- 'skiarealaw11.WaysMore': WHATEVER THE INPUT: true; the input reads as it did. -/
def waysMoreSpec : ChangeSpec := { name := "waysMore", fn := fun _ => fun
  | [d1, d2, d3] => { results := [.lit (.bool true)], args := [d1, d2, d3] }
  | _ => none }
def waysMoreRow : OpenClaim := { program := "ytnafejjdhdpanaa", sum := "7fe26c5bd9b98a717aa3acb8f04f4278e40978b7d5ad446f993ea0dbf04be422", func := "skiarea/skiarealaw11.WaysMore", spec := "waysMore", unfollowed := true, recurses := true, apart := false }
def WaysMoreSaid : Prop := waysMoreRow.holds Try.pinned (OpenSpec.ofChange waysMoreSpec)

/-- ITS FALSE NEIGHBOUR: 'it returns false'. Refute it at one input. -/
def waysMoreWrong : ChangeSpec := { name := "waysMore", fn := fun _ => fun
  | [d1, d2, d3] => { results := [.lit (.bool false)], args := [d1, d2, d3] }
  | _ => none }
def WaysMoreWrongFalsely : Prop := waysMoreRow.holds Try.pinned (OpenSpec.ofChange waysMoreWrong)

/-- 'skiarealaw11.WaysLeast': WHATEVER THE INPUT: true; the input reads as it did. -/
def waysLeastSpec : ChangeSpec := { name := "waysLeast", fn := fun _ => fun
  | [d1, d2, d3] => { results := [.lit (.bool true)], args := [d1, d2, d3] }
  | _ => none }
def waysLeastRow : OpenClaim := { program := "ytnafejjdhdpanaa", sum := "7fe26c5bd9b98a717aa3acb8f04f4278e40978b7d5ad446f993ea0dbf04be422", func := "skiarea/skiarealaw11.WaysLeast", spec := "waysLeast", unfollowed := true, recurses := true, apart := false }
def WaysLeastSaid : Prop := waysLeastRow.holds Try.pinned (OpenSpec.ofChange waysLeastSpec)

/-- ITS FALSE NEIGHBOUR: 'it returns false'. Refute it at one input. -/
def waysLeastWrong : ChangeSpec := { name := "waysLeast", fn := fun _ => fun
  | [d1, d2, d3] => { results := [.lit (.bool false)], args := [d1, d2, d3] }
  | _ => none }
def WaysLeastWrongFalsely : Prop := waysLeastRow.holds Try.pinned (OpenSpec.ofChange waysLeastWrong)

/-- 'skiarealaw11.WaysBases': WHATEVER THE INPUT: true; the input reads as it did. -/
def waysBasesSpec : ChangeSpec := { name := "waysBases", fn := fun _ => fun
  | [d] => { results := [.lit (.bool true)], args := [d] }
  | _ => none }
def waysBasesRow : OpenClaim := { program := "ytnafejjdhdpanaa", sum := "7fe26c5bd9b98a717aa3acb8f04f4278e40978b7d5ad446f993ea0dbf04be422", func := "skiarea/skiarealaw11.WaysBases", spec := "waysBases", unfollowed := true, recurses := true, apart := false }
def WaysBasesSaid : Prop := waysBasesRow.holds Try.pinned (OpenSpec.ofChange waysBasesSpec)

/-- ITS FALSE NEIGHBOUR: 'it returns false'. Refute it at one input. -/
def waysBasesWrong : ChangeSpec := { name := "waysBases", fn := fun _ => fun
  | [d] => { results := [.lit (.bool false)], args := [d] }
  | _ => none }
def WaysBasesWrongFalsely : Prop := waysBasesRow.holds Try.pinned (OpenSpec.ofChange waysBasesWrong)

/- THE SECOND FORM. 'bulk': how many values and letters a reading holds, each counted each time it is reached (what is shared counts as often as it is met; a slice's spare places count too). A statement '..UptoSaid' is the law's where the arguments, and the package variables that the reading takes, are together of bulk at most 1048576: NARROWER than '..Said'. Prove '..Said' where nothing that the law and all that it calls make is longer than what came in: it says more and counts as full. Else prove '..UptoSaid'. A law counts once. -/
mutual
def uptoBulk {H : Type} : DataW H → Nat
  | .lit (.string bytes) => bytes.length + 1
  | .lit _ => 1
  | .nil => 1
  | .ptr d => uptoBulk d + 1
  | .slice elems spare => uptoBulkAll elems + uptoBulkAll spare + 1
  | .agg parts => uptoBulkAll parts + 1
  | .iface _ d => uptoBulk d + 1
  | .map entries => uptoBulkEntries entries + 1
  | .held _ => 1
def uptoBulkAll {H : Type} : List (DataW H) → Nat
  | [] => 0
  | d :: r => uptoBulk d + uptoBulkAll r
def uptoBulkEntries {H : Type} : List (Lit × DataW H) → Nat
  | [] => 0
  | x :: r => uptoBulkEntry x + uptoBulkEntries r
def uptoBulkEntry {H : Type} : Lit × DataW H → Nat
  | (.string bytes, d) => bytes.length + uptoBulk d + 1
  | (_, d) => uptoBulk d + 1
 end
def uptoSmall : (H : Type) → List (DataW H) → Bool := fun _ ds => decide (uptoBulkAll ds ≤ 1048576)
def OpenSpec.upto (s : _root_.Go.ChangeSpec) : _root_.Go.OpenSpec := { _root_.Go.OpenSpec.ofChange s with cond := some uptoSmall }

/-- 'skiarealaw11.WaysReaches', WHERE WHAT IT READS IS OF BULK AT MOST 1048576: true; the input reads as it did. -/
def waysReachesUptoRow : OpenClaim := { program := "ytnafejjdhdpanaa", sum := "7fe26c5bd9b98a717aa3acb8f04f4278e40978b7d5ad446f993ea0dbf04be422", func := "skiarea/skiarealaw11.WaysReaches", spec := "waysReaches", unfollowed := true, recurses := true, apart := false, narrowed := true }
def WaysReachesUptoSaid : Prop := waysReachesUptoRow.holds Try.pinned (OpenSpec.upto waysReachesSpec)

/-- 'skiarealaw11.WaysShortest', WHERE WHAT IT READS IS OF BULK AT MOST 1048576: true; the input reads as it did. -/
def waysShortestUptoRow : OpenClaim := { program := "ytnafejjdhdpanaa", sum := "7fe26c5bd9b98a717aa3acb8f04f4278e40978b7d5ad446f993ea0dbf04be422", func := "skiarea/skiarealaw11.WaysShortest", spec := "waysShortest", unfollowed := true, recurses := true, apart := false, narrowed := true }
def WaysShortestUptoSaid : Prop := waysShortestUptoRow.holds Try.pinned (OpenSpec.upto waysShortestSpec)

/-- 'skiarealaw11.WaysNeeds', WHERE WHAT IT READS IS OF BULK AT MOST 1048576: true; the input reads as it did. -/
def waysNeedsUptoRow : OpenClaim := { program := "ytnafejjdhdpanaa", sum := "7fe26c5bd9b98a717aa3acb8f04f4278e40978b7d5ad446f993ea0dbf04be422", func := "skiarea/skiarealaw11.WaysNeeds", spec := "waysNeeds", unfollowed := true, recurses := true, apart := false, narrowed := true }
def WaysNeedsUptoSaid : Prop := waysNeedsUptoRow.holds Try.pinned (OpenSpec.upto waysNeedsSpec)

/-- 'skiarealaw11.WaysHome', WHERE WHAT IT READS IS OF BULK AT MOST 1048576: true; the input reads as it did. -/
def waysHomeUptoRow : OpenClaim := { program := "ytnafejjdhdpanaa", sum := "7fe26c5bd9b98a717aa3acb8f04f4278e40978b7d5ad446f993ea0dbf04be422", func := "skiarea/skiarealaw11.WaysHome", spec := "waysHome", unfollowed := true, recurses := true, apart := false, narrowed := true }
def WaysHomeUptoSaid : Prop := waysHomeUptoRow.holds Try.pinned (OpenSpec.upto waysHomeSpec)

/-- 'skiarealaw11.WaysMore', WHERE WHAT IT READS IS OF BULK AT MOST 1048576: true; the input reads as it did. -/
def waysMoreUptoRow : OpenClaim := { program := "ytnafejjdhdpanaa", sum := "7fe26c5bd9b98a717aa3acb8f04f4278e40978b7d5ad446f993ea0dbf04be422", func := "skiarea/skiarealaw11.WaysMore", spec := "waysMore", unfollowed := true, recurses := true, apart := false, narrowed := true }
def WaysMoreUptoSaid : Prop := waysMoreUptoRow.holds Try.pinned (OpenSpec.upto waysMoreSpec)

/-- 'skiarealaw11.WaysLeast', WHERE WHAT IT READS IS OF BULK AT MOST 1048576: true; the input reads as it did. -/
def waysLeastUptoRow : OpenClaim := { program := "ytnafejjdhdpanaa", sum := "7fe26c5bd9b98a717aa3acb8f04f4278e40978b7d5ad446f993ea0dbf04be422", func := "skiarea/skiarealaw11.WaysLeast", spec := "waysLeast", unfollowed := true, recurses := true, apart := false, narrowed := true }
def WaysLeastUptoSaid : Prop := waysLeastUptoRow.holds Try.pinned (OpenSpec.upto waysLeastSpec)

/-- 'skiarealaw11.WaysBases', WHERE WHAT IT READS IS OF BULK AT MOST 1048576: true; the input reads as it did. -/
def waysBasesUptoRow : OpenClaim := { program := "ytnafejjdhdpanaa", sum := "7fe26c5bd9b98a717aa3acb8f04f4278e40978b7d5ad446f993ea0dbf04be422", func := "skiarea/skiarealaw11.WaysBases", spec := "waysBases", unfollowed := true, recurses := true, apart := false, narrowed := true }
def WaysBasesUptoSaid : Prop := waysBasesUptoRow.holds Try.pinned (OpenSpec.upto waysBasesSpec)

end Rows
end Go.Proofs.Ytnafejjdhdpanaa
