/-
  No cell of these rows narrows 'for every input' (looked for: loops, veiled, ifaces, maps, wideKeys, modest, calm, conditions, laid).
  DERIVED. THE GIVEN ROWS OF THIS SEAT. 7 by the template 'for every input the law returns true; each argument reads behind the call as it read before'; 0 by the template 'total and deterministic' (their statements: YtmfjcimogpmheaaTotals.lean).
  GIVEN WITH THE SEED: the statements are not yours to turn. If you find one false, say at which input.
  Laid BY PROGRAM, IN A SANDBOX (cutbox-rows.mjs): the forced cells as the released guide's own fill.sh prints them over the translation 4423344c7ec2cff2… (all of the seat's roots in one cut). By AI agents, Wed Nov 11 2026. No macro, syntax, notation, axiom, sorry.
-/
import Derived.Test.YtmfjcimogpmheaaChecked
import GoSem.Claim
import GoSem.ClaimJoined
import GoSem.ClaimMapViews
import Derived.JoinedTies
import Derived.KernelRfl
namespace Go.Proofs.Ytmfjcimogpmheaa
/- THE CELL 'sum', in the pinned program and in every row, IS THE sha256 OF THE DUMP (.gsa) THAT YtmfjcimogpmheaaProg.lean LOADS. Nothing in Lean hashes anything: it is a label: what it is worth is what the hold of that sum in a sandbox is worth. -/
noncomputable def Try.pinned : Pinned := { name := "ytmfjcimogpmheaa", sum := "4423344c7ec2cff28595fd5e21632b3c73084ca11db9db438dbd4c45874193c4", checked := Try.checked }
namespace Rows
def none {H : Type} : Left H := { results := [], args := [] }

/-- 'skiarealaw32.FraudTimes': WHATEVER THE INPUT: true; the input reads as it did. -/
def fraudTimesSpec : ChangeSpec := { name := "fraudTimes", fn := fun _ => fun
  | [d1, d2, d3] => { results := [.lit (.bool true)], args := [d1, d2, d3] }
  | _ => none }
def fraudTimesRow : OpenClaim := { program := "ytmfjcimogpmheaa", sum := "4423344c7ec2cff28595fd5e21632b3c73084ca11db9db438dbd4c45874193c4", func := "skiarea/skiarealaw32.FraudTimes", spec := "fraudTimes", unfollowed := true, recurses := true, plainKeys := false, apart := false }
def FraudTimesSaid : Prop := fraudTimesRow.holds Try.pinned (OpenSpec.ofChange fraudTimesSpec)

/-- ITS FALSE NEIGHBOUR: 'it returns false'. Refute it at one input. -/
def fraudTimesWrong : ChangeSpec := { name := "fraudTimes", fn := fun _ => fun
  | [d1, d2, d3] => { results := [.lit (.bool false)], args := [d1, d2, d3] }
  | _ => none }
def FraudTimesWrongFalsely : Prop := fraudTimesRow.holds Try.pinned (OpenSpec.ofChange fraudTimesWrong)

/-- 'skiarealaw32.FraudPairs': WHATEVER THE INPUT: true; the input reads as it did. -/
def fraudPairsSpec : ChangeSpec := { name := "fraudPairs", fn := fun _ => fun
  | [d1, d2] => { results := [.lit (.bool true)], args := [d1, d2] }
  | _ => none }
def fraudPairsRow : OpenClaim := { program := "ytmfjcimogpmheaa", sum := "4423344c7ec2cff28595fd5e21632b3c73084ca11db9db438dbd4c45874193c4", func := "skiarea/skiarealaw32.FraudPairs", spec := "fraudPairs", unfollowed := true, recurses := true, plainKeys := false, apart := false }
def FraudPairsSaid : Prop := fraudPairsRow.holds Try.pinned (OpenSpec.ofChange fraudPairsSpec)

/-- ITS FALSE NEIGHBOUR: 'it returns false'. Refute it at one input. -/
def fraudPairsWrong : ChangeSpec := { name := "fraudPairs", fn := fun _ => fun
  | [d1, d2] => { results := [.lit (.bool false)], args := [d1, d2] }
  | _ => none }
def FraudPairsWrongFalsely : Prop := fraudPairsRow.holds Try.pinned (OpenSpec.ofChange fraudPairsWrong)

/-- 'skiarealaw32.FraudClones': WHATEVER THE INPUT: true; the input reads as it did. -/
def fraudClonesSpec : ChangeSpec := { name := "fraudClones", fn := fun _ => fun
  | [d] => { results := [.lit (.bool true)], args := [d] }
  | _ => none }
def fraudClonesRow : OpenClaim := { program := "ytmfjcimogpmheaa", sum := "4423344c7ec2cff28595fd5e21632b3c73084ca11db9db438dbd4c45874193c4", func := "skiarea/skiarealaw32.FraudClones", spec := "fraudClones", unfollowed := true, recurses := true, plainKeys := false, apart := false }
def FraudClonesSaid : Prop := fraudClonesRow.holds Try.pinned (OpenSpec.ofChange fraudClonesSpec)

/-- ITS FALSE NEIGHBOUR: 'it returns false'. Refute it at one input. -/
def fraudClonesWrong : ChangeSpec := { name := "fraudClones", fn := fun _ => fun
  | [d] => { results := [.lit (.bool false)], args := [d] }
  | _ => none }
def FraudClonesWrongFalsely : Prop := fraudClonesRow.holds Try.pinned (OpenSpec.ofChange fraudClonesWrong)

/-- 'skiarealaw32.FraudSuspects': WHATEVER THE INPUT: true; the input reads as it did. -/
def fraudSuspectsSpec : ChangeSpec := { name := "fraudSuspects", fn := fun _ => fun
  | [d1, d2] => { results := [.lit (.bool true)], args := [d1, d2] }
  | _ => none }
def fraudSuspectsRow : OpenClaim := { program := "ytmfjcimogpmheaa", sum := "4423344c7ec2cff28595fd5e21632b3c73084ca11db9db438dbd4c45874193c4", func := "skiarea/skiarealaw32.FraudSuspects", spec := "fraudSuspects", unfollowed := true, recurses := true, plainKeys := false, apart := false }
def FraudSuspectsSaid : Prop := fraudSuspectsRow.holds Try.pinned (OpenSpec.ofChange fraudSuspectsSpec)

/-- ITS FALSE NEIGHBOUR: 'it returns false'. Refute it at one input. -/
def fraudSuspectsWrong : ChangeSpec := { name := "fraudSuspects", fn := fun _ => fun
  | [d1, d2] => { results := [.lit (.bool false)], args := [d1, d2] }
  | _ => none }
def FraudSuspectsWrongFalsely : Prop := fraudSuspectsRow.holds Try.pinned (OpenSpec.ofChange fraudSuspectsWrong)

/-- 'skiarealaw32.FraudHonest': WHATEVER THE INPUT: true; the input reads as it did. -/
def fraudHonestSpec : ChangeSpec := { name := "fraudHonest", fn := fun _ => fun
  | [d1, d2, d3] => { results := [.lit (.bool true)], args := [d1, d2, d3] }
  | _ => none }
def fraudHonestRow : OpenClaim := { program := "ytmfjcimogpmheaa", sum := "4423344c7ec2cff28595fd5e21632b3c73084ca11db9db438dbd4c45874193c4", func := "skiarea/skiarealaw32.FraudHonest", spec := "fraudHonest", unfollowed := true, recurses := true, plainKeys := false, apart := false }
def FraudHonestSaid : Prop := fraudHonestRow.holds Try.pinned (OpenSpec.ofChange fraudHonestSpec)

/-- ITS FALSE NEIGHBOUR: 'it returns false'. Refute it at one input. -/
def fraudHonestWrong : ChangeSpec := { name := "fraudHonest", fn := fun _ => fun
  | [d1, d2, d3] => { results := [.lit (.bool false)], args := [d1, d2, d3] }
  | _ => none }
def FraudHonestWrongFalsely : Prop := fraudHonestRow.holds Try.pinned (OpenSpec.ofChange fraudHonestWrong)

/-- 'skiarealaw32.FraudEarly': WHATEVER THE INPUT: true; the input reads as it did. -/
def fraudEarlySpec : ChangeSpec := { name := "fraudEarly", fn := fun _ => fun
  | [d1, d2, d3] => { results := [.lit (.bool true)], args := [d1, d2, d3] }
  | _ => none }
def fraudEarlyRow : OpenClaim := { program := "ytmfjcimogpmheaa", sum := "4423344c7ec2cff28595fd5e21632b3c73084ca11db9db438dbd4c45874193c4", func := "skiarea/skiarealaw32.FraudEarly", spec := "fraudEarly", unfollowed := true, recurses := true, plainKeys := false, apart := false }
def FraudEarlySaid : Prop := fraudEarlyRow.holds Try.pinned (OpenSpec.ofChange fraudEarlySpec)

/-- ITS FALSE NEIGHBOUR: 'it returns false'. Refute it at one input. -/
def fraudEarlyWrong : ChangeSpec := { name := "fraudEarly", fn := fun _ => fun
  | [d1, d2, d3] => { results := [.lit (.bool false)], args := [d1, d2, d3] }
  | _ => none }
def FraudEarlyWrongFalsely : Prop := fraudEarlyRow.holds Try.pinned (OpenSpec.ofChange fraudEarlyWrong)

/-- 'skiarealaw32.FraudDetour': WHATEVER THE INPUT: true; the input reads as it did. -/
def fraudDetourSpec : ChangeSpec := { name := "fraudDetour", fn := fun _ => fun
  | [d1, d2, d3, d4] => { results := [.lit (.bool true)], args := [d1, d2, d3, d4] }
  | _ => none }
def fraudDetourRow : OpenClaim := { program := "ytmfjcimogpmheaa", sum := "4423344c7ec2cff28595fd5e21632b3c73084ca11db9db438dbd4c45874193c4", func := "skiarea/skiarealaw32.FraudDetour", spec := "fraudDetour", unfollowed := true, recurses := true, plainKeys := false, apart := false }
def FraudDetourSaid : Prop := fraudDetourRow.holds Try.pinned (OpenSpec.ofChange fraudDetourSpec)

/-- ITS FALSE NEIGHBOUR: 'it returns false'. Refute it at one input. -/
def fraudDetourWrong : ChangeSpec := { name := "fraudDetour", fn := fun _ => fun
  | [d1, d2, d3, d4] => { results := [.lit (.bool false)], args := [d1, d2, d3, d4] }
  | _ => none }
def FraudDetourWrongFalsely : Prop := fraudDetourRow.holds Try.pinned (OpenSpec.ofChange fraudDetourWrong)

/- THE SECOND FORM. 'bulk': how many values and letters a reading holds, each counted each time it is reached (what is shared counts as often as it is met; a slice's spare places count too). A statement '..UptoSaid' is the law's where the arguments, and the package variables that the reading takes, are together of bulk at most 1048576: NARROWER than '..Said'. Prove '..Said' where nothing that the law and all that it calls make is longer than what came in: it says more and counts as full. Else prove '..UptoSaid'. A law counts once. -/
mutual
def uptoBulk {H : Type} : DataW H → Nat
  | .lit (.string bytes) => bytes.length + 1
  | .lit _ => 1
  | .nil => 1
  | .ptr d => uptoBulk d + 1
  | .slice elems spare => uptoBulkAll elems + uptoBulkAll spare + 1
  | .agg parts => uptoBulkAll parts + 1
  | .iface _ d => uptoBulk d + 1
  | .map entries => uptoBulkEntries entries + 1
  | .held _ => 1
def uptoBulkAll {H : Type} : List (DataW H) → Nat
  | [] => 0
  | d :: r => uptoBulk d + uptoBulkAll r
def uptoBulkEntries {H : Type} : List (Lit × DataW H) → Nat
  | [] => 0
  | x :: r => uptoBulkEntry x + uptoBulkEntries r
def uptoBulkEntry {H : Type} : Lit × DataW H → Nat
  | (.string bytes, d) => bytes.length + uptoBulk d + 1
  | (_, d) => uptoBulk d + 1
 end
def uptoSmall : (H : Type) → List (DataW H) → Bool := fun _ ds => decide (uptoBulkAll ds ≤ 1048576)
def OpenSpec.upto (s : _root_.Go.ChangeSpec) : _root_.Go.OpenSpec := { _root_.Go.OpenSpec.ofChange s with cond := some uptoSmall }

/-- 'skiarealaw32.FraudTimes', WHERE WHAT IT READS IS OF BULK AT MOST 1048576: true; the input reads as it did. -/
def fraudTimesUptoRow : OpenClaim := { program := "ytmfjcimogpmheaa", sum := "4423344c7ec2cff28595fd5e21632b3c73084ca11db9db438dbd4c45874193c4", func := "skiarea/skiarealaw32.FraudTimes", spec := "fraudTimes", unfollowed := true, recurses := true, plainKeys := false, apart := false, narrowed := true }
def FraudTimesUptoSaid : Prop := fraudTimesUptoRow.holds Try.pinned (OpenSpec.upto fraudTimesSpec)

/-- 'skiarealaw32.FraudPairs', WHERE WHAT IT READS IS OF BULK AT MOST 1048576: true; the input reads as it did. -/
def fraudPairsUptoRow : OpenClaim := { program := "ytmfjcimogpmheaa", sum := "4423344c7ec2cff28595fd5e21632b3c73084ca11db9db438dbd4c45874193c4", func := "skiarea/skiarealaw32.FraudPairs", spec := "fraudPairs", unfollowed := true, recurses := true, plainKeys := false, apart := false, narrowed := true }
def FraudPairsUptoSaid : Prop := fraudPairsUptoRow.holds Try.pinned (OpenSpec.upto fraudPairsSpec)

/-- 'skiarealaw32.FraudClones', WHERE WHAT IT READS IS OF BULK AT MOST 1048576: true; the input reads as it did. -/
def fraudClonesUptoRow : OpenClaim := { program := "ytmfjcimogpmheaa", sum := "4423344c7ec2cff28595fd5e21632b3c73084ca11db9db438dbd4c45874193c4", func := "skiarea/skiarealaw32.FraudClones", spec := "fraudClones", unfollowed := true, recurses := true, plainKeys := false, apart := false, narrowed := true }
def FraudClonesUptoSaid : Prop := fraudClonesUptoRow.holds Try.pinned (OpenSpec.upto fraudClonesSpec)

/-- 'skiarealaw32.FraudSuspects', WHERE WHAT IT READS IS OF BULK AT MOST 1048576: true; the input reads as it did. -/
def fraudSuspectsUptoRow : OpenClaim := { program := "ytmfjcimogpmheaa", sum := "4423344c7ec2cff28595fd5e21632b3c73084ca11db9db438dbd4c45874193c4", func := "skiarea/skiarealaw32.FraudSuspects", spec := "fraudSuspects", unfollowed := true, recurses := true, plainKeys := false, apart := false, narrowed := true }
def FraudSuspectsUptoSaid : Prop := fraudSuspectsUptoRow.holds Try.pinned (OpenSpec.upto fraudSuspectsSpec)

/-- 'skiarealaw32.FraudHonest', WHERE WHAT IT READS IS OF BULK AT MOST 1048576: true; the input reads as it did. -/
def fraudHonestUptoRow : OpenClaim := { program := "ytmfjcimogpmheaa", sum := "4423344c7ec2cff28595fd5e21632b3c73084ca11db9db438dbd4c45874193c4", func := "skiarea/skiarealaw32.FraudHonest", spec := "fraudHonest", unfollowed := true, recurses := true, plainKeys := false, apart := false, narrowed := true }
def FraudHonestUptoSaid : Prop := fraudHonestUptoRow.holds Try.pinned (OpenSpec.upto fraudHonestSpec)

/-- 'skiarealaw32.FraudEarly', WHERE WHAT IT READS IS OF BULK AT MOST 1048576: true; the input reads as it did. -/
def fraudEarlyUptoRow : OpenClaim := { program := "ytmfjcimogpmheaa", sum := "4423344c7ec2cff28595fd5e21632b3c73084ca11db9db438dbd4c45874193c4", func := "skiarea/skiarealaw32.FraudEarly", spec := "fraudEarly", unfollowed := true, recurses := true, plainKeys := false, apart := false, narrowed := true }
def FraudEarlyUptoSaid : Prop := fraudEarlyUptoRow.holds Try.pinned (OpenSpec.upto fraudEarlySpec)

/-- 'skiarealaw32.FraudDetour', WHERE WHAT IT READS IS OF BULK AT MOST 1048576: true; the input reads as it did. -/
def fraudDetourUptoRow : OpenClaim := { program := "ytmfjcimogpmheaa", sum := "4423344c7ec2cff28595fd5e21632b3c73084ca11db9db438dbd4c45874193c4", func := "skiarea/skiarealaw32.FraudDetour", spec := "fraudDetour", unfollowed := true, recurses := true, plainKeys := false, apart := false, narrowed := true }
def FraudDetourUptoSaid : Prop := fraudDetourUptoRow.holds Try.pinned (OpenSpec.upto fraudDetourSpec)

end Rows
end Go.Proofs.Ytmfjcimogpmheaa
