/-
  No cell of these rows narrows 'for every input' (looked for: loops, veiled, ifaces, maps, wideKeys, modest, calm, conditions, laid).
  DERIVED. THE GIVEN ROWS OF THIS SEAT. 7 by the template 'for every input the law returns true; each argument reads behind the call as it read before'; 0 by the template 'total and deterministic' (their statements: YtjopghiagoidgaaGreatTotals.lean).
  GIVEN WITH THE SEED: the statements are not yours to turn. If you find one false, say at which input.
  Laid BY PROGRAM, IN A SANDBOX (cutbox-rows.mjs): the forced cells as the released guide's own fill.sh prints them over the translation d2953249c0843869… (all of the seat's roots in one cut). By AI agents, Wed Nov 11 2026. No macro, syntax, notation, axiom, sorry.
-/
import Derived.Test.YtjopghiagoidgaaGreatChecked
import GoSem.Claim
import GoSem.ClaimJoined
import GoSem.ClaimMapViews
import Derived.JoinedTies
import Derived.KernelRfl
namespace Go.Proofs.YtjopghiagoidgaaGreat
/- THE CELL 'sum', in the pinned program and in every row, IS THE sha256 OF THE DUMP (.gsa) THAT YtjopghiagoidgaaGreatProg.lean LOADS. Nothing in Lean hashes anything: it is a label: what it is worth is what the hold of that sum in a sandbox is worth. -/
noncomputable def Tryz.pinned : Pinned := { name := "ytjopghiagoidgaagreat", sum := "d2953249c084386942a28b4685d15d2a1fbfc3ce25ea26aa6627414ee68fa05d", checked := Tryz.checked }
namespace Rows
def none {H : Type} : Left H := { results := [], args := [] }

/-- 'skiarealaw54.InterlockChecks': WHATEVER THE INPUT: true; the input reads as it did. -/
def interlockChecksSpec : ChangeSpec := { name := "interlockChecks", fn := fun _ => fun
  | [d] => { results := [.lit (.bool true)], args := [d] }
  | _ => none }
def interlockChecksRow : OpenClaim := { program := "ytjopghiagoidgaagreat", sum := "d2953249c084386942a28b4685d15d2a1fbfc3ce25ea26aa6627414ee68fa05d", func := "skiarea/skiarealaw54.InterlockChecks", spec := "interlockChecks", inPlace := ["slices.overlaps[skiarea/api.Status]"], unfollowed := true, recurses := true, apart := false }
def InterlockChecksSaid : Prop := interlockChecksRow.holds Tryz.pinned (OpenSpec.ofChange interlockChecksSpec)

/-- ITS FALSE NEIGHBOUR: 'it returns false'. Refute it at one input. -/
def interlockChecksWrong : ChangeSpec := { name := "interlockChecks", fn := fun _ => fun
  | [d] => { results := [.lit (.bool false)], args := [d] }
  | _ => none }
def InterlockChecksWrongFalsely : Prop := interlockChecksRow.holds Tryz.pinned (OpenSpec.ofChange interlockChecksWrong)

/-- 'skiarealaw54.InterlockWhys': WHATEVER THE INPUT: true; the input reads as it did. -/
def interlockWhysSpec : ChangeSpec := { name := "interlockWhys", fn := fun _ => fun
  | [d1, d2, d3] => { results := [.lit (.bool true)], args := [d1, d2, d3] }
  | _ => none }
def interlockWhysRow : OpenClaim := { program := "ytjopghiagoidgaagreat", sum := "d2953249c084386942a28b4685d15d2a1fbfc3ce25ea26aa6627414ee68fa05d", func := "skiarea/skiarealaw54.InterlockWhys", spec := "interlockWhys", inPlace := ["slices.overlaps[skiarea/api.Status]"], unfollowed := true, recurses := true, apart := false }
def InterlockWhysSaid : Prop := interlockWhysRow.holds Tryz.pinned (OpenSpec.ofChange interlockWhysSpec)

/-- ITS FALSE NEIGHBOUR: 'it returns false'. Refute it at one input. -/
def interlockWhysWrong : ChangeSpec := { name := "interlockWhys", fn := fun _ => fun
  | [d1, d2, d3] => { results := [.lit (.bool false)], args := [d1, d2, d3] }
  | _ => none }
def InterlockWhysWrongFalsely : Prop := interlockWhysRow.holds Tryz.pinned (OpenSpec.ofChange interlockWhysWrong)

/-- 'skiarealaw54.InterlockOpens': WHATEVER THE INPUT: true; the input reads as it did. -/
def interlockOpensSpec : ChangeSpec := { name := "interlockOpens", fn := fun _ => fun
  | [d1, d2] => { results := [.lit (.bool true)], args := [d1, d2] }
  | _ => none }
def interlockOpensRow : OpenClaim := { program := "ytjopghiagoidgaagreat", sum := "d2953249c084386942a28b4685d15d2a1fbfc3ce25ea26aa6627414ee68fa05d", func := "skiarea/skiarealaw54.InterlockOpens", spec := "interlockOpens", inPlace := ["slices.overlaps[skiarea/api.Status]"], unfollowed := true, recurses := true, apart := false }
def InterlockOpensSaid : Prop := interlockOpensRow.holds Tryz.pinned (OpenSpec.ofChange interlockOpensSpec)

/-- ITS FALSE NEIGHBOUR: 'it returns false'. Refute it at one input. -/
def interlockOpensWrong : ChangeSpec := { name := "interlockOpens", fn := fun _ => fun
  | [d1, d2] => { results := [.lit (.bool false)], args := [d1, d2] }
  | _ => none }
def InterlockOpensWrongFalsely : Prop := interlockOpensRow.holds Tryz.pinned (OpenSpec.ofChange interlockOpensWrong)

/-- 'skiarealaw54.InterlockKeeps': WHATEVER THE INPUT: true; the input reads as it did. -/
def interlockKeepsSpec : ChangeSpec := { name := "interlockKeeps", fn := fun _ => fun
  | [d1, d2] => { results := [.lit (.bool true)], args := [d1, d2] }
  | _ => none }
def interlockKeepsRow : OpenClaim := { program := "ytjopghiagoidgaagreat", sum := "d2953249c084386942a28b4685d15d2a1fbfc3ce25ea26aa6627414ee68fa05d", func := "skiarea/skiarealaw54.InterlockKeeps", spec := "interlockKeeps", inPlace := ["slices.overlaps[skiarea/api.Status]"], unfollowed := true, recurses := true, apart := false }
def InterlockKeepsSaid : Prop := interlockKeepsRow.holds Tryz.pinned (OpenSpec.ofChange interlockKeepsSpec)

/-- ITS FALSE NEIGHBOUR: 'it returns false'. Refute it at one input. -/
def interlockKeepsWrong : ChangeSpec := { name := "interlockKeeps", fn := fun _ => fun
  | [d1, d2] => { results := [.lit (.bool false)], args := [d1, d2] }
  | _ => none }
def InterlockKeepsWrongFalsely : Prop := interlockKeepsRow.holds Tryz.pinned (OpenSpec.ofChange interlockKeepsWrong)

/-- 'skiarealaw54.InterlockSafe': WHATEVER THE INPUT: true; the input reads as it did. -/
def interlockSafeSpec : ChangeSpec := { name := "interlockSafe", fn := fun _ => fun
  | [d1, d2] => { results := [.lit (.bool true)], args := [d1, d2] }
  | _ => none }
def interlockSafeRow : OpenClaim := { program := "ytjopghiagoidgaagreat", sum := "d2953249c084386942a28b4685d15d2a1fbfc3ce25ea26aa6627414ee68fa05d", func := "skiarea/skiarealaw54.InterlockSafe", spec := "interlockSafe", inPlace := ["slices.overlaps[skiarea/api.Status]"], unfollowed := true, recurses := true, apart := false }
def InterlockSafeSaid : Prop := interlockSafeRow.holds Tryz.pinned (OpenSpec.ofChange interlockSafeSpec)

/-- ITS FALSE NEIGHBOUR: 'it returns false'. Refute it at one input. -/
def interlockSafeWrong : ChangeSpec := { name := "interlockSafe", fn := fun _ => fun
  | [d1, d2] => { results := [.lit (.bool false)], args := [d1, d2] }
  | _ => none }
def InterlockSafeWrongFalsely : Prop := interlockSafeRow.holds Tryz.pinned (OpenSpec.ofChange interlockSafeWrong)

/-- 'skiarealaw54.InterlockGreatest': WHATEVER THE INPUT: true; the input reads as it did. -/
def interlockGreatestSpec : ChangeSpec := { name := "interlockGreatest", fn := fun _ => fun
  | [d1, d2, d3] => { results := [.lit (.bool true)], args := [d1, d2, d3] }
  | _ => none }
def interlockGreatestRow : OpenClaim := { program := "ytjopghiagoidgaagreat", sum := "d2953249c084386942a28b4685d15d2a1fbfc3ce25ea26aa6627414ee68fa05d", func := "skiarea/skiarealaw54.InterlockGreatest", spec := "interlockGreatest", inPlace := ["slices.overlaps[skiarea/api.Status]"], unfollowed := true, recurses := true, apart := false }
def InterlockGreatestSaid : Prop := interlockGreatestRow.holds Tryz.pinned (OpenSpec.ofChange interlockGreatestSpec)

/-- ITS FALSE NEIGHBOUR: 'it returns false'. Refute it at one input. -/
def interlockGreatestWrong : ChangeSpec := { name := "interlockGreatest", fn := fun _ => fun
  | [d1, d2, d3] => { results := [.lit (.bool false)], args := [d1, d2, d3] }
  | _ => none }
def InterlockGreatestWrongFalsely : Prop := interlockGreatestRow.holds Tryz.pinned (OpenSpec.ofChange interlockGreatestWrong)

/-- 'skiarealaw54.InterlockHome': WHATEVER THE INPUT: true; the input reads as it did. -/
def interlockHomeSpec : ChangeSpec := { name := "interlockHome", fn := fun _ => fun
  | [d] => { results := [.lit (.bool true)], args := [d] }
  | _ => none }
def interlockHomeRow : OpenClaim := { program := "ytjopghiagoidgaagreat", sum := "d2953249c084386942a28b4685d15d2a1fbfc3ce25ea26aa6627414ee68fa05d", func := "skiarea/skiarealaw54.InterlockHome", spec := "interlockHome", inPlace := ["slices.overlaps[skiarea/api.Status]"], unfollowed := true, recurses := true, apart := false }
def InterlockHomeSaid : Prop := interlockHomeRow.holds Tryz.pinned (OpenSpec.ofChange interlockHomeSpec)

/-- ITS FALSE NEIGHBOUR: 'it returns false'. Refute it at one input. -/
def interlockHomeWrong : ChangeSpec := { name := "interlockHome", fn := fun _ => fun
  | [d] => { results := [.lit (.bool false)], args := [d] }
  | _ => none }
def InterlockHomeWrongFalsely : Prop := interlockHomeRow.holds Tryz.pinned (OpenSpec.ofChange interlockHomeWrong)

/- THE SECOND FORM. 'bulk': how many values and letters a reading holds, each counted each time it is reached (what is shared counts as often as it is met; a slice's spare places count too). A statement '..UptoSaid' is the law's where the arguments, and the package variables that the reading takes, are together of bulk at most 1048576: NARROWER than '..Said'. Prove '..Said' where nothing that the law and all that it calls make is longer than what came in: it says more and counts as full. Else prove '..UptoSaid'. A law counts once. -/
mutual
def uptoBulk {H : Type} : DataW H → Nat
  | .lit (.string bytes) => bytes.length + 1
  | .lit _ => 1
  | .nil => 1
  | .ptr d => uptoBulk d + 1
  | .slice elems spare => uptoBulkAll elems + uptoBulkAll spare + 1
  | .agg parts => uptoBulkAll parts + 1
  | .iface _ d => uptoBulk d + 1
  | .map entries => uptoBulkEntries entries + 1
  | .held _ => 1
def uptoBulkAll {H : Type} : List (DataW H) → Nat
  | [] => 0
  | d :: r => uptoBulk d + uptoBulkAll r
def uptoBulkEntries {H : Type} : List (Lit × DataW H) → Nat
  | [] => 0
  | x :: r => uptoBulkEntry x + uptoBulkEntries r
def uptoBulkEntry {H : Type} : Lit × DataW H → Nat
  | (.string bytes, d) => bytes.length + uptoBulk d + 1
  | (_, d) => uptoBulk d + 1
 end
def uptoSmall : (H : Type) → List (DataW H) → Bool := fun _ ds => decide (uptoBulkAll ds ≤ 1048576)
def OpenSpec.upto (s : _root_.Go.ChangeSpec) : _root_.Go.OpenSpec := { _root_.Go.OpenSpec.ofChange s with cond := some uptoSmall }

/-- 'skiarealaw54.InterlockChecks', WHERE WHAT IT READS IS OF BULK AT MOST 1048576: true; the input reads as it did. -/
def interlockChecksUptoRow : OpenClaim := { program := "ytjopghiagoidgaagreat", sum := "d2953249c084386942a28b4685d15d2a1fbfc3ce25ea26aa6627414ee68fa05d", func := "skiarea/skiarealaw54.InterlockChecks", spec := "interlockChecks", inPlace := ["slices.overlaps[skiarea/api.Status]"], unfollowed := true, recurses := true, apart := false, narrowed := true }
def InterlockChecksUptoSaid : Prop := interlockChecksUptoRow.holds Tryz.pinned (OpenSpec.upto interlockChecksSpec)

/-- 'skiarealaw54.InterlockWhys', WHERE WHAT IT READS IS OF BULK AT MOST 1048576: true; the input reads as it did. -/
def interlockWhysUptoRow : OpenClaim := { program := "ytjopghiagoidgaagreat", sum := "d2953249c084386942a28b4685d15d2a1fbfc3ce25ea26aa6627414ee68fa05d", func := "skiarea/skiarealaw54.InterlockWhys", spec := "interlockWhys", inPlace := ["slices.overlaps[skiarea/api.Status]"], unfollowed := true, recurses := true, apart := false, narrowed := true }
def InterlockWhysUptoSaid : Prop := interlockWhysUptoRow.holds Tryz.pinned (OpenSpec.upto interlockWhysSpec)

/-- 'skiarealaw54.InterlockOpens', WHERE WHAT IT READS IS OF BULK AT MOST 1048576: true; the input reads as it did. -/
def interlockOpensUptoRow : OpenClaim := { program := "ytjopghiagoidgaagreat", sum := "d2953249c084386942a28b4685d15d2a1fbfc3ce25ea26aa6627414ee68fa05d", func := "skiarea/skiarealaw54.InterlockOpens", spec := "interlockOpens", inPlace := ["slices.overlaps[skiarea/api.Status]"], unfollowed := true, recurses := true, apart := false, narrowed := true }
def InterlockOpensUptoSaid : Prop := interlockOpensUptoRow.holds Tryz.pinned (OpenSpec.upto interlockOpensSpec)

/-- 'skiarealaw54.InterlockKeeps', WHERE WHAT IT READS IS OF BULK AT MOST 1048576: true; the input reads as it did. -/
def interlockKeepsUptoRow : OpenClaim := { program := "ytjopghiagoidgaagreat", sum := "d2953249c084386942a28b4685d15d2a1fbfc3ce25ea26aa6627414ee68fa05d", func := "skiarea/skiarealaw54.InterlockKeeps", spec := "interlockKeeps", inPlace := ["slices.overlaps[skiarea/api.Status]"], unfollowed := true, recurses := true, apart := false, narrowed := true }
def InterlockKeepsUptoSaid : Prop := interlockKeepsUptoRow.holds Tryz.pinned (OpenSpec.upto interlockKeepsSpec)

/-- 'skiarealaw54.InterlockSafe', WHERE WHAT IT READS IS OF BULK AT MOST 1048576: true; the input reads as it did. -/
def interlockSafeUptoRow : OpenClaim := { program := "ytjopghiagoidgaagreat", sum := "d2953249c084386942a28b4685d15d2a1fbfc3ce25ea26aa6627414ee68fa05d", func := "skiarea/skiarealaw54.InterlockSafe", spec := "interlockSafe", inPlace := ["slices.overlaps[skiarea/api.Status]"], unfollowed := true, recurses := true, apart := false, narrowed := true }
def InterlockSafeUptoSaid : Prop := interlockSafeUptoRow.holds Tryz.pinned (OpenSpec.upto interlockSafeSpec)

/-- 'skiarealaw54.InterlockGreatest', WHERE WHAT IT READS IS OF BULK AT MOST 1048576: true; the input reads as it did. -/
def interlockGreatestUptoRow : OpenClaim := { program := "ytjopghiagoidgaagreat", sum := "d2953249c084386942a28b4685d15d2a1fbfc3ce25ea26aa6627414ee68fa05d", func := "skiarea/skiarealaw54.InterlockGreatest", spec := "interlockGreatest", inPlace := ["slices.overlaps[skiarea/api.Status]"], unfollowed := true, recurses := true, apart := false, narrowed := true }
def InterlockGreatestUptoSaid : Prop := interlockGreatestUptoRow.holds Tryz.pinned (OpenSpec.upto interlockGreatestSpec)

/-- 'skiarealaw54.InterlockHome', WHERE WHAT IT READS IS OF BULK AT MOST 1048576: true; the input reads as it did. -/
def interlockHomeUptoRow : OpenClaim := { program := "ytjopghiagoidgaagreat", sum := "d2953249c084386942a28b4685d15d2a1fbfc3ce25ea26aa6627414ee68fa05d", func := "skiarea/skiarealaw54.InterlockHome", spec := "interlockHome", inPlace := ["slices.overlaps[skiarea/api.Status]"], unfollowed := true, recurses := true, apart := false, narrowed := true }
def InterlockHomeUptoSaid : Prop := interlockHomeUptoRow.holds Tryz.pinned (OpenSpec.upto interlockHomeSpec)

end Rows
end Go.Proofs.YtjopghiagoidgaaGreat
