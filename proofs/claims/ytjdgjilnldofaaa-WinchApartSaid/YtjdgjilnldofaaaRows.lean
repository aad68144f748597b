/-
  No cell of these rows narrows 'for every input' (looked for: loops, veiled, ifaces, maps, wideKeys, modest, calm, conditions, laid).
  DERIVED. THE GIVEN ROWS OF THIS SEAT. 7 by the template 'for every input the law returns true; each argument reads behind the call as it read before'; 0 by the template 'total and deterministic' (their statements: YtjdgjilnldofaaaTotals.lean).
  GIVEN WITH THE SEED: the statements are not yours to turn. If you find one false, say at which input.
  Laid BY PROGRAM, IN A SANDBOX (cutbox-rows.mjs): the forced cells as the released guide's own fill.sh prints them over the translation 563db2bc174523a1… (all of the seat's roots in one cut). By AI agents, Wed Nov 11 2026. No macro, syntax, notation, axiom, sorry.
-/
import Derived.Test.YtjdgjilnldofaaaChecked
import GoSem.Claim
import GoSem.ClaimJoined
import GoSem.ClaimMapViews
import Derived.JoinedTies
import Derived.KernelRfl
namespace Go.Proofs.Ytjdgjilnldofaaa
/- THE CELL 'sum', in the pinned program and in every row, IS THE sha256 OF THE DUMP (.gsa) THAT YtjdgjilnldofaaaProg.lean LOADS. Nothing in Lean hashes anything: it is a label: what it is worth is what the hold of that sum in a sandbox is worth. -/
noncomputable def Try.pinned : Pinned := { name := "ytjdgjilnldofaaa", sum := "563db2bc174523a1a58b7a50538b013b2e4f9b71e120a04b29e62361d1936b41", checked := Try.checked }
namespace Rows
def none {H : Type} : Left H := { results := [], args := [] }

/-- 'skiarealaw46.WinchRights': WHATEVER THE INPUT: true; the input reads as it did. -/
def winchRightsSpec : ChangeSpec := { name := "winchRights", fn := fun _ => fun
  | [d] => { results := [.lit (.bool true)], args := [d] }
  | _ => none }
def winchRightsRow : OpenClaim := { program := "ytjdgjilnldofaaa", sum := "563db2bc174523a1a58b7a50538b013b2e4f9b71e120a04b29e62361d1936b41", func := "skiarea/skiarealaw46.WinchRights", spec := "winchRights", unfollowed := true, recurses := true, apart := false }
def WinchRightsSaid : Prop := winchRightsRow.holds Try.pinned (OpenSpec.ofChange winchRightsSpec)

/-- ITS FALSE NEIGHBOUR: 'it returns false'. Refute it at one input. -/
def winchRightsWrong : ChangeSpec := { name := "winchRights", fn := fun _ => fun
  | [d] => { results := [.lit (.bool false)], args := [d] }
  | _ => none }
def WinchRightsWrongFalsely : Prop := winchRightsRow.holds Try.pinned (OpenSpec.ofChange winchRightsWrong)

/-- 'skiarealaw46.WinchLays': WHATEVER THE INPUT: true; the input reads as it did. -/
def winchLaysSpec : ChangeSpec := { name := "winchLays", fn := fun _ => fun
  | [d1, d2] => { results := [.lit (.bool true)], args := [d1, d2] }
  | _ => none }
def winchLaysRow : OpenClaim := { program := "ytjdgjilnldofaaa", sum := "563db2bc174523a1a58b7a50538b013b2e4f9b71e120a04b29e62361d1936b41", func := "skiarea/skiarealaw46.WinchLays", spec := "winchLays", unfollowed := true, recurses := true, apart := false }
def WinchLaysSaid : Prop := winchLaysRow.holds Try.pinned (OpenSpec.ofChange winchLaysSpec)

/-- ITS FALSE NEIGHBOUR: 'it returns false'. Refute it at one input. -/
def winchLaysWrong : ChangeSpec := { name := "winchLays", fn := fun _ => fun
  | [d1, d2] => { results := [.lit (.bool false)], args := [d1, d2] }
  | _ => none }
def WinchLaysWrongFalsely : Prop := winchLaysRow.holds Try.pinned (OpenSpec.ofChange winchLaysWrong)

/-- 'skiarealaw46.WinchSweeps': WHATEVER THE INPUT: true; the input reads as it did. -/
def winchSweepsSpec : ChangeSpec := { name := "winchSweeps", fn := fun _ => fun
  | [d1, d2] => { results := [.lit (.bool true)], args := [d1, d2] }
  | _ => none }
def winchSweepsRow : OpenClaim := { program := "ytjdgjilnldofaaa", sum := "563db2bc174523a1a58b7a50538b013b2e4f9b71e120a04b29e62361d1936b41", func := "skiarea/skiarealaw46.WinchSweeps", spec := "winchSweeps", unfollowed := true, recurses := true, apart := false }
def WinchSweepsSaid : Prop := winchSweepsRow.holds Try.pinned (OpenSpec.ofChange winchSweepsSpec)

/-- ITS FALSE NEIGHBOUR: 'it returns false'. Refute it at one input. -/
def winchSweepsWrong : ChangeSpec := { name := "winchSweeps", fn := fun _ => fun
  | [d1, d2] => { results := [.lit (.bool false)], args := [d1, d2] }
  | _ => none }
def WinchSweepsWrongFalsely : Prop := winchSweepsRow.holds Try.pinned (OpenSpec.ofChange winchSweepsWrong)

/-- 'skiarealaw46.WinchFrees': WHATEVER THE INPUT: true; the input reads as it did. -/
def winchFreesSpec : ChangeSpec := { name := "winchFrees", fn := fun _ => fun
  | [d1, d2, d3] => { results := [.lit (.bool true)], args := [d1, d2, d3] }
  | _ => none }
def winchFreesRow : OpenClaim := { program := "ytjdgjilnldofaaa", sum := "563db2bc174523a1a58b7a50538b013b2e4f9b71e120a04b29e62361d1936b41", func := "skiarea/skiarealaw46.WinchFrees", spec := "winchFrees", unfollowed := true, recurses := true, apart := false }
def WinchFreesSaid : Prop := winchFreesRow.holds Try.pinned (OpenSpec.ofChange winchFreesSpec)

/-- ITS FALSE NEIGHBOUR: 'it returns false'. Refute it at one input. -/
def winchFreesWrong : ChangeSpec := { name := "winchFrees", fn := fun _ => fun
  | [d1, d2, d3] => { results := [.lit (.bool false)], args := [d1, d2, d3] }
  | _ => none }
def WinchFreesWrongFalsely : Prop := winchFreesRow.holds Try.pinned (OpenSpec.ofChange winchFreesWrong)

/-- 'skiarealaw46.WinchApart': WHATEVER THE INPUT: true; the input reads as it did. -/
def winchApartSpec : ChangeSpec := { name := "winchApart", fn := fun _ => fun
  | [d1, d2, d3] => { results := [.lit (.bool true)], args := [d1, d2, d3] }
  | _ => none }
def winchApartRow : OpenClaim := { program := "ytjdgjilnldofaaa", sum := "563db2bc174523a1a58b7a50538b013b2e4f9b71e120a04b29e62361d1936b41", func := "skiarea/skiarealaw46.WinchApart", spec := "winchApart", unfollowed := true, recurses := true, apart := false }
def WinchApartSaid : Prop := winchApartRow.holds Try.pinned (OpenSpec.ofChange winchApartSpec)

/-- ITS FALSE NEIGHBOUR: 'it returns false'. Refute it at one input. -/
def winchApartWrong : ChangeSpec := { name := "winchApart", fn := fun _ => fun
  | [d1, d2, d3] => { results := [.lit (.bool false)], args := [d1, d2, d3] }
  | _ => none }
def WinchApartWrongFalsely : Prop := winchApartRow.holds Try.pinned (OpenSpec.ofChange winchApartWrong)

/-- 'skiarealaw46.WinchSecond': WHATEVER THE INPUT: true; the input reads as it did. -/
def winchSecondSpec : ChangeSpec := { name := "winchSecond", fn := fun _ => fun
  | [d1, d2, d3] => { results := [.lit (.bool true)], args := [d1, d2, d3] }
  | _ => none }
def winchSecondRow : OpenClaim := { program := "ytjdgjilnldofaaa", sum := "563db2bc174523a1a58b7a50538b013b2e4f9b71e120a04b29e62361d1936b41", func := "skiarea/skiarealaw46.WinchSecond", spec := "winchSecond", unfollowed := true, recurses := true, apart := false }
def WinchSecondSaid : Prop := winchSecondRow.holds Try.pinned (OpenSpec.ofChange winchSecondSpec)

/-- ITS FALSE NEIGHBOUR: 'it returns false'. Refute it at one input. -/
def winchSecondWrong : ChangeSpec := { name := "winchSecond", fn := fun _ => fun
  | [d1, d2, d3] => { results := [.lit (.bool false)], args := [d1, d2, d3] }
  | _ => none }
def WinchSecondWrongFalsely : Prop := winchSecondRow.holds Try.pinned (OpenSpec.ofChange winchSecondWrong)

/-- 'skiarealaw46.WinchClears': WHATEVER THE INPUT: true; the input reads as it did. -/
def winchClearsSpec : ChangeSpec := { name := "winchClears", fn := fun _ => fun
  | [d1, d2, d3] => { results := [.lit (.bool true)], args := [d1, d2, d3] }
  | _ => none }
def winchClearsRow : OpenClaim := { program := "ytjdgjilnldofaaa", sum := "563db2bc174523a1a58b7a50538b013b2e4f9b71e120a04b29e62361d1936b41", func := "skiarea/skiarealaw46.WinchClears", spec := "winchClears", unfollowed := true, recurses := true, apart := false }
def WinchClearsSaid : Prop := winchClearsRow.holds Try.pinned (OpenSpec.ofChange winchClearsSpec)

/-- ITS FALSE NEIGHBOUR: 'it returns false'. Refute it at one input. -/
def winchClearsWrong : ChangeSpec := { name := "winchClears", fn := fun _ => fun
  | [d1, d2, d3] => { results := [.lit (.bool false)], args := [d1, d2, d3] }
  | _ => none }
def WinchClearsWrongFalsely : Prop := winchClearsRow.holds Try.pinned (OpenSpec.ofChange winchClearsWrong)

/- THE SECOND FORM. 'bulk': how many values and letters a reading holds, each counted each time it is reached (what is shared counts as often as it is met; a slice's spare places count too). A statement '..UptoSaid' is the law's where the arguments, and the package variables that the reading takes, are together of bulk at most 1048576: NARROWER than '..Said'. Prove '..Said' where nothing that the law and all that it calls make is longer than what came in: it says more and counts as full. Else prove '..UptoSaid'. A law counts once. -/
mutual
def uptoBulk {H : Type} : DataW H → Nat
  | .lit (.string bytes) => bytes.length + 1
  | .lit _ => 1
  | .nil => 1
  | .ptr d => uptoBulk d + 1
  | .slice elems spare => uptoBulkAll elems + uptoBulkAll spare + 1
  | .agg parts => uptoBulkAll parts + 1
  | .iface _ d => uptoBulk d + 1
  | .map entries => uptoBulkEntries entries + 1
  | .held _ => 1
def uptoBulkAll {H : Type} : List (DataW H) → Nat
  | [] => 0
  | d :: r => uptoBulk d + uptoBulkAll r
def uptoBulkEntries {H : Type} : List (Lit × DataW H) → Nat
  | [] => 0
  | x :: r => uptoBulkEntry x + uptoBulkEntries r
def uptoBulkEntry {H : Type} : Lit × DataW H → Nat
  | (.string bytes, d) => bytes.length + uptoBulk d + 1
  | (_, d) => uptoBulk d + 1
 end
def uptoSmall : (H : Type) → List (DataW H) → Bool := fun _ ds => decide (uptoBulkAll ds ≤ 1048576)
def OpenSpec.upto (s : _root_.Go.ChangeSpec) : _root_.Go.OpenSpec := { _root_.Go.OpenSpec.ofChange s with cond := some uptoSmall }

/-- 'skiarealaw46.WinchRights', WHERE WHAT IT READS IS OF BULK AT MOST 1048576: true; the input reads as it did. -/
def winchRightsUptoRow : OpenClaim := { program := "ytjdgjilnldofaaa", sum := "563db2bc174523a1a58b7a50538b013b2e4f9b71e120a04b29e62361d1936b41", func := "skiarea/skiarealaw46.WinchRights", spec := "winchRights", unfollowed := true, recurses := true, apart := false, narrowed := true }
def WinchRightsUptoSaid : Prop := winchRightsUptoRow.holds Try.pinned (OpenSpec.upto winchRightsSpec)

/-- 'skiarealaw46.WinchLays', WHERE WHAT IT READS IS OF BULK AT MOST 1048576: true; the input reads as it did. -/
def winchLaysUptoRow : OpenClaim := { program := "ytjdgjilnldofaaa", sum := "563db2bc174523a1a58b7a50538b013b2e4f9b71e120a04b29e62361d1936b41", func := "skiarea/skiarealaw46.WinchLays", spec := "winchLays", unfollowed := true, recurses := true, apart := false, narrowed := true }
def WinchLaysUptoSaid : Prop := winchLaysUptoRow.holds Try.pinned (OpenSpec.upto winchLaysSpec)

/-- 'skiarealaw46.WinchSweeps', WHERE WHAT IT READS IS OF BULK AT MOST 1048576: true; the input reads as it did. -/
def winchSweepsUptoRow : OpenClaim := { program := "ytjdgjilnldofaaa", sum := "563db2bc174523a1a58b7a50538b013b2e4f9b71e120a04b29e62361d1936b41", func := "skiarea/skiarealaw46.WinchSweeps", spec := "winchSweeps", unfollowed := true, recurses := true, apart := false, narrowed := true }
def WinchSweepsUptoSaid : Prop := winchSweepsUptoRow.holds Try.pinned (OpenSpec.upto winchSweepsSpec)

/-- 'skiarealaw46.WinchFrees', WHERE WHAT IT READS IS OF BULK AT MOST 1048576: true; the input reads as it did. -/
def winchFreesUptoRow : OpenClaim := { program := "ytjdgjilnldofaaa", sum := "563db2bc174523a1a58b7a50538b013b2e4f9b71e120a04b29e62361d1936b41", func := "skiarea/skiarealaw46.WinchFrees", spec := "winchFrees", unfollowed := true, recurses := true, apart := false, narrowed := true }
def WinchFreesUptoSaid : Prop := winchFreesUptoRow.holds Try.pinned (OpenSpec.upto winchFreesSpec)

/-- 'skiarealaw46.WinchApart', WHERE WHAT IT READS IS OF BULK AT MOST 1048576: true; the input reads as it did. -/
def winchApartUptoRow : OpenClaim := { program := "ytjdgjilnldofaaa", sum := "563db2bc174523a1a58b7a50538b013b2e4f9b71e120a04b29e62361d1936b41", func := "skiarea/skiarealaw46.WinchApart", spec := "winchApart", unfollowed := true, recurses := true, apart := false, narrowed := true }
def WinchApartUptoSaid : Prop := winchApartUptoRow.holds Try.pinned (OpenSpec.upto winchApartSpec)

/-- 'skiarealaw46.WinchSecond', WHERE WHAT IT READS IS OF BULK AT MOST 1048576: true; the input reads as it did. -/
def winchSecondUptoRow : OpenClaim := { program := "ytjdgjilnldofaaa", sum := "563db2bc174523a1a58b7a50538b013b2e4f9b71e120a04b29e62361d1936b41", func := "skiarea/skiarealaw46.WinchSecond", spec := "winchSecond", unfollowed := true, recurses := true, apart := false, narrowed := true }
def WinchSecondUptoSaid : Prop := winchSecondUptoRow.holds Try.pinned (OpenSpec.upto winchSecondSpec)

/-- 'skiarealaw46.WinchClears', WHERE WHAT IT READS IS OF BULK AT MOST 1048576: true; the input reads as it did. -/
def winchClearsUptoRow : OpenClaim := { program := "ytjdgjilnldofaaa", sum := "563db2bc174523a1a58b7a50538b013b2e4f9b71e120a04b29e62361d1936b41", func := "skiarea/skiarealaw46.WinchClears", spec := "winchClears", unfollowed := true, recurses := true, apart := false, narrowed := true }
def WinchClearsUptoSaid : Prop := winchClearsUptoRow.holds Try.pinned (OpenSpec.upto winchClearsSpec)

end Rows
end Go.Proofs.Ytjdgjilnldofaaa
