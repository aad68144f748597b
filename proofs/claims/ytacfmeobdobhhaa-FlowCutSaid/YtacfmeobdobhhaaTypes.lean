/-
  Facts on the types of the seat's program, printed by a small program of our own (wip/TypesGen.lean.txt).
-/
import Derived.Test.YtacfmeobdobhhaaChecked
import Derived.Test.YtacfmeobdobhhaaSkC
import Derived.Test.YtacfmeobdobhhaaSkH
import Derived.KernelRfl
namespace Go.Proofs.Ytacfmeobdobhhaa
open Go Go.Ab
theorem Try.mixed : Try.prog.follows .mixedOrders = true := by kernel_rfl
@[go_sem] theorem ok3 : okT Try.prog 3 = true := by kernel_rfl
@[go_sem] theorem sz3 : szOf Try.prog 3 = 1 := by kernel_rfl
@[go_sem] theorem by3 : bytesOf Try.prog 3 = 8 := by kernel_rfl
@[go_sem] theorem ag3 : aggT Try.prog 3 = false := by kernel_rfl
@[go_sem] theorem un3 : Program.underlying Try.prog 3 = some (.int .i64) := by kernel_rfl
@[go_sem] theorem zs3 : (zeroV Try.prog 3).isSome = true := by kernel_rfl
@[go_sem] theorem zc3 : azeroCells Try.prog 3 = [.int .i64 0] := by kernel_rfl
@[go_sem] theorem zv3 : azero Try.prog 3 = .int .i64 0 := by kernel_rfl
@[go_sem] theorem ok4 : okT Try.prog 4 = true := by kernel_rfl
@[go_sem] theorem sz4 : szOf Try.prog 4 = 1 := by kernel_rfl
@[go_sem] theorem by4 : bytesOf Try.prog 4 = 1 := by kernel_rfl
@[go_sem] theorem ag4 : aggT Try.prog 4 = false := by kernel_rfl
@[go_sem] theorem un4 : Program.underlying Try.prog 4 = some (.bool) := by kernel_rfl
@[go_sem] theorem zs4 : (zeroV Try.prog 4).isSome = true := by kernel_rfl
@[go_sem] theorem zc4 : azeroCells Try.prog 4 = [.bool false] := by kernel_rfl
@[go_sem] theorem zv4 : azero Try.prog 4 = .bool false := by kernel_rfl
@[go_sem] theorem ok5 : okT Try.prog 5 = true := by kernel_rfl
@[go_sem] theorem sz5 : szOf Try.prog 5 = 1 := by kernel_rfl
@[go_sem] theorem by5 : bytesOf Try.prog 5 = 1 := by kernel_rfl
@[go_sem] theorem ag5 : aggT Try.prog 5 = false := by kernel_rfl
@[go_sem] theorem un5 : Program.underlying Try.prog 5 = some (.int .u8) := by kernel_rfl
@[go_sem] theorem zs5 : (zeroV Try.prog 5).isSome = true := by kernel_rfl
@[go_sem] theorem zc5 : azeroCells Try.prog 5 = [.int .u8 0] := by kernel_rfl
@[go_sem] theorem zv5 : azero Try.prog 5 = .int .u8 0 := by kernel_rfl
@[go_sem] theorem ok9 : okT Try.prog 9 = true := by kernel_rfl
@[go_sem] theorem sz9 : szOf Try.prog 9 = 1 := by kernel_rfl
@[go_sem] theorem by9 : bytesOf Try.prog 9 = 16 := by kernel_rfl
@[go_sem] theorem ag9 : aggT Try.prog 9 = false := by kernel_rfl
@[go_sem] theorem un9 : Program.underlying Try.prog 9 = some (.string) := by kernel_rfl
@[go_sem] theorem zs9 : (zeroV Try.prog 9).isSome = true := by kernel_rfl
@[go_sem] theorem zc9 : azeroCells Try.prog 9 = [.str ByteArray.empty] := by kernel_rfl
@[go_sem] theorem zv9 : azero Try.prog 9 = .str ByteArray.empty := by kernel_rfl
@[go_sem] theorem ok22 : okT Try.prog 22 = true := by kernel_rfl
@[go_sem] theorem sz22 : szOf Try.prog 22 = 1 := by kernel_rfl
@[go_sem] theorem by22 : bytesOf Try.prog 22 = 24 := by kernel_rfl
@[go_sem] theorem ag22 : aggT Try.prog 22 = false := by kernel_rfl
@[go_sem] theorem un22 : Program.underlying Try.prog 22 = some (.slice 34) := by kernel_rfl
@[go_sem] theorem el22 : elemT Try.prog 22 = some 34 := by kernel_rfl
@[go_sem] theorem zs22 : (zeroV Try.prog 22).isSome = true := by kernel_rfl
@[go_sem] theorem zc22 : azeroCells Try.prog 22 = [.nils] := by kernel_rfl
@[go_sem] theorem zv22 : azero Try.prog 22 = .nils := by kernel_rfl
@[go_sem] theorem ok23 : okT Try.prog 23 = true := by kernel_rfl
@[go_sem] theorem sz23 : szOf Try.prog 23 = 1 := by kernel_rfl
@[go_sem] theorem by23 : bytesOf Try.prog 23 = 24 := by kernel_rfl
@[go_sem] theorem ag23 : aggT Try.prog 23 = false := by kernel_rfl
@[go_sem] theorem un23 : Program.underlying Try.prog 23 = some (.slice 3) := by kernel_rfl
@[go_sem] theorem el23 : elemT Try.prog 23 = some 3 := by kernel_rfl
@[go_sem] theorem zs23 : (zeroV Try.prog 23).isSome = true := by kernel_rfl
@[go_sem] theorem zc23 : azeroCells Try.prog 23 = [.nils] := by kernel_rfl
@[go_sem] theorem zv23 : azero Try.prog 23 = .nils := by kernel_rfl
@[go_sem] theorem ok32 : okT Try.prog 32 = true := by kernel_rfl
@[go_sem] theorem sz32 : szOf Try.prog 32 = 1 := by kernel_rfl
@[go_sem] theorem by32 : bytesOf Try.prog 32 = 8 := by kernel_rfl
@[go_sem] theorem ag32 : aggT Try.prog 32 = false := by kernel_rfl
@[go_sem] theorem zs32 : (zeroV Try.prog 32).isSome = true := by kernel_rfl
@[go_sem] theorem zc32 : azeroCells Try.prog 32 = [.any] := by kernel_rfl
@[go_sem] theorem zv32 : azero Try.prog 32 = .any := by kernel_rfl
@[go_sem] theorem ok34 : okT Try.prog 34 = true := by kernel_rfl
@[go_sem] theorem sz34 : szOf Try.prog 34 = 4 := by kernel_rfl
@[go_sem] theorem by34 : bytesOf Try.prog 34 = 32 := by kernel_rfl
@[go_sem] theorem ag34 : aggT Try.prog 34 = true := by kernel_rfl
@[go_sem] theorem zs34 : (zeroV Try.prog 34).isSome = true := by kernel_rfl
@[go_sem] theorem zc34 : azeroCells Try.prog 34 = [.int .i64 0, .int .i64 0, .int .i64 0, .int .i64 0] := by kernel_rfl
@[go_sem] theorem zv34 : azero Try.prog 34 = .agg [.int .i64 0, .int .i64 0, .int .i64 0, .int .i64 0] := by kernel_rfl
@[go_sem] theorem fi34x0 : fieldT Try.prog 34 0 = some (0, 1) := by kernel_rfl
@[go_sem] theorem fi34x1 : fieldT Try.prog 34 1 = some (1, 1) := by kernel_rfl
@[go_sem] theorem fi34x2 : fieldT Try.prog 34 2 = some (2, 1) := by kernel_rfl
@[go_sem] theorem fi34x3 : fieldT Try.prog 34 3 = some (3, 1) := by kernel_rfl
@[go_sem] theorem pl34 : placesOf Try.prog 34 = some [(0, 1), (1, 1), (2, 1), (3, 1)] := by kernel_rfl
@[go_sem] theorem eo34 : eqOffs Try.prog 34 = some [(0, false), (1, false), (2, false), (3, false)] := by kernel_rfl
@[go_sem] theorem ok36 : okT Try.prog 36 = true := by kernel_rfl
@[go_sem] theorem sz36 : szOf Try.prog 36 = 1 := by kernel_rfl
@[go_sem] theorem by36 : bytesOf Try.prog 36 = 2 := by kernel_rfl
@[go_sem] theorem ag36 : aggT Try.prog 36 = false := by kernel_rfl
@[go_sem] theorem un36 : Program.underlying Try.prog 36 = some (.int .u16) := by kernel_rfl
@[go_sem] theorem zs36 : (zeroV Try.prog 36).isSome = true := by kernel_rfl
@[go_sem] theorem zc36 : azeroCells Try.prog 36 = [.int .u16 0] := by kernel_rfl
@[go_sem] theorem zv36 : azero Try.prog 36 = .int .u16 0 := by kernel_rfl
@[go_sem] theorem ok41 : okT Try.prog 41 = true := by kernel_rfl
@[go_sem] theorem sz41 : szOf Try.prog 41 = 1 := by kernel_rfl
@[go_sem] theorem by41 : bytesOf Try.prog 41 = 8 := by kernel_rfl
@[go_sem] theorem ag41 : aggT Try.prog 41 = false := by kernel_rfl
@[go_sem] theorem un41 : Program.underlying Try.prog 41 = some (.map 3 3) := by kernel_rfl
@[go_sem] theorem ke41 : keyT Try.prog 41 = some 3 := by kernel_rfl
@[go_sem] theorem zs41 : (zeroV Try.prog 41).isSome = true := by kernel_rfl
@[go_sem] theorem zc41 : azeroCells Try.prog 41 = [.nilm] := by kernel_rfl
@[go_sem] theorem zv41 : azero Try.prog 41 = .nilm := by kernel_rfl
@[go_sem] theorem ok42 : okT Try.prog 42 = true := by kernel_rfl
@[go_sem] theorem sz42 : szOf Try.prog 42 = 1 := by kernel_rfl
@[go_sem] theorem by42 : bytesOf Try.prog 42 = 8 := by kernel_rfl
@[go_sem] theorem ag42 : aggT Try.prog 42 = false := by kernel_rfl
@[go_sem] theorem un42 : Program.underlying Try.prog 42 = some (.map 3 45) := by kernel_rfl
@[go_sem] theorem ke42 : keyT Try.prog 42 = some 45 := by kernel_rfl
@[go_sem] theorem zs42 : (zeroV Try.prog 42).isSome = true := by kernel_rfl
@[go_sem] theorem zc42 : azeroCells Try.prog 42 = [.nilm] := by kernel_rfl
@[go_sem] theorem zv42 : azero Try.prog 42 = .nilm := by kernel_rfl
@[go_sem] theorem ok45 : okT Try.prog 45 = true := by kernel_rfl
@[go_sem] theorem sz45 : szOf Try.prog 45 = 2 := by kernel_rfl
@[go_sem] theorem by45 : bytesOf Try.prog 45 = 16 := by kernel_rfl
@[go_sem] theorem ag45 : aggT Try.prog 45 = true := by kernel_rfl
@[go_sem] theorem zs45 : (zeroV Try.prog 45).isSome = true := by kernel_rfl
@[go_sem] theorem zc45 : azeroCells Try.prog 45 = [.int .i64 0, .bool false] := by kernel_rfl
@[go_sem] theorem zv45 : azero Try.prog 45 = .agg [.int .i64 0, .bool false] := by kernel_rfl
@[go_sem] theorem fi45x0 : fieldT Try.prog 45 0 = some (0, 1) := by kernel_rfl
@[go_sem] theorem fi45x1 : fieldT Try.prog 45 1 = some (1, 1) := by kernel_rfl
@[go_sem] theorem pl45 : placesOf Try.prog 45 = some [(0, 1), (1, 1)] := by kernel_rfl
@[go_sem] theorem eo45 : eqOffs Try.prog 45 = some [(0, false), (1, true)] := by kernel_rfl
@[go_sem] theorem ok49 : okT Try.prog 49 = true := by kernel_rfl
@[go_sem] theorem sz49 : szOf Try.prog 49 = 1 := by kernel_rfl
@[go_sem] theorem by49 : bytesOf Try.prog 49 = 8 := by kernel_rfl
@[go_sem] theorem ag49 : aggT Try.prog 49 = false := by kernel_rfl
@[go_sem] theorem zs49 : (zeroV Try.prog 49).isSome = true := by kernel_rfl
@[go_sem] theorem zc49 : azeroCells Try.prog 49 = [.any] := by kernel_rfl
@[go_sem] theorem zv49 : azero Try.prog 49 = .any := by kernel_rfl
@[go_sem] theorem ok53 : okT Try.prog 53 = true := by kernel_rfl
@[go_sem] theorem sz53 : szOf Try.prog 53 = 1 := by kernel_rfl
@[go_sem] theorem by53 : bytesOf Try.prog 53 = 8 := by kernel_rfl
@[go_sem] theorem ag53 : aggT Try.prog 53 = false := by kernel_rfl
@[go_sem] theorem un53 : Program.underlying Try.prog 53 = some (.map 3 23) := by kernel_rfl
@[go_sem] theorem ke53 : keyT Try.prog 53 = some 23 := by kernel_rfl
@[go_sem] theorem zs53 : (zeroV Try.prog 53).isSome = true := by kernel_rfl
@[go_sem] theorem zc53 : azeroCells Try.prog 53 = [.nilm] := by kernel_rfl
@[go_sem] theorem zv53 : azero Try.prog 53 = .nilm := by kernel_rfl
@[go_sem] theorem ok54 : okT Try.prog 54 = true := by kernel_rfl
@[go_sem] theorem sz54 : szOf Try.prog 54 = 1 := by kernel_rfl
@[go_sem] theorem by54 : bytesOf Try.prog 54 = 8 := by kernel_rfl
@[go_sem] theorem ag54 : aggT Try.prog 54 = false := by kernel_rfl
@[go_sem] theorem un54 : Program.underlying Try.prog 54 = some (.map 3 4) := by kernel_rfl
@[go_sem] theorem ke54 : keyT Try.prog 54 = some 4 := by kernel_rfl
@[go_sem] theorem zs54 : (zeroV Try.prog 54).isSome = true := by kernel_rfl
@[go_sem] theorem zc54 : azeroCells Try.prog 54 = [.nilm] := by kernel_rfl
@[go_sem] theorem zv54 : azero Try.prog 54 = .nilm := by kernel_rfl
@[go_sem] theorem ok58 : okT Try.prog 58 = true := by kernel_rfl
@[go_sem] theorem sz58 : szOf Try.prog 58 = 1 := by kernel_rfl
@[go_sem] theorem by58 : bytesOf Try.prog 58 = 8 := by kernel_rfl
@[go_sem] theorem ag58 : aggT Try.prog 58 = false := by kernel_rfl
@[go_sem] theorem zs58 : (zeroV Try.prog 58).isSome = true := by kernel_rfl
@[go_sem] theorem zc58 : azeroCells Try.prog 58 = [.any] := by kernel_rfl
@[go_sem] theorem zv58 : azero Try.prog 58 = .any := by kernel_rfl
@[go_sem] theorem ok66 : okT Try.prog 66 = true := by kernel_rfl
@[go_sem] theorem sz66 : szOf Try.prog 66 = 1 := by kernel_rfl
@[go_sem] theorem by66 : bytesOf Try.prog 66 = 8 := by kernel_rfl
@[go_sem] theorem ag66 : aggT Try.prog 66 = false := by kernel_rfl
@[go_sem] theorem un66 : Program.underlying Try.prog 66 = some (.int .u64) := by kernel_rfl
@[go_sem] theorem zs66 : (zeroV Try.prog 66).isSome = true := by kernel_rfl
@[go_sem] theorem zc66 : azeroCells Try.prog 66 = [.int .u64 0] := by kernel_rfl
@[go_sem] theorem zv66 : azero Try.prog 66 = .int .u64 0 := by kernel_rfl
@[go_sem] theorem ok68 : okT Try.prog 68 = true := by kernel_rfl
@[go_sem] theorem sz68 : szOf Try.prog 68 = 1 := by kernel_rfl
@[go_sem] theorem by68 : bytesOf Try.prog 68 = 8 := by kernel_rfl
@[go_sem] theorem ag68 : aggT Try.prog 68 = false := by kernel_rfl
@[go_sem] theorem un68 : Program.underlying Try.prog 68 = some (.int .i64) := by kernel_rfl
@[go_sem] theorem zs68 : (zeroV Try.prog 68).isSome = true := by kernel_rfl
@[go_sem] theorem zc68 : azeroCells Try.prog 68 = [.int .i64 0] := by kernel_rfl
@[go_sem] theorem zv68 : azero Try.prog 68 = .int .i64 0 := by kernel_rfl
@[go_sem] theorem ok77 : okT Try.prog 77 = true := by kernel_rfl
@[go_sem] theorem sz77 : szOf Try.prog 77 = 1 := by kernel_rfl
@[go_sem] theorem by77 : bytesOf Try.prog 77 = 4 := by kernel_rfl
@[go_sem] theorem ag77 : aggT Try.prog 77 = false := by kernel_rfl
@[go_sem] theorem un77 : Program.underlying Try.prog 77 = some (.int .u32) := by kernel_rfl
@[go_sem] theorem zs77 : (zeroV Try.prog 77).isSome = true := by kernel_rfl
@[go_sem] theorem zc77 : azeroCells Try.prog 77 = [.int .u32 0] := by kernel_rfl
@[go_sem] theorem zv77 : azero Try.prog 77 = .int .u32 0 := by kernel_rfl
@[go_sem] theorem ok79 : okT Try.prog 79 = true := by kernel_rfl
@[go_sem] theorem sz79 : szOf Try.prog 79 = 1 := by kernel_rfl
@[go_sem] theorem by79 : bytesOf Try.prog 79 = 8 := by kernel_rfl
@[go_sem] theorem ag79 : aggT Try.prog 79 = false := by kernel_rfl
@[go_sem] theorem un79 : Program.underlying Try.prog 79 = some (.int .u64) := by kernel_rfl
@[go_sem] theorem zs79 : (zeroV Try.prog 79).isSome = true := by kernel_rfl
@[go_sem] theorem zc79 : azeroCells Try.prog 79 = [.int .u64 0] := by kernel_rfl
@[go_sem] theorem zv79 : azero Try.prog 79 = .int .u64 0 := by kernel_rfl
@[go_sem] theorem ok80 : okT Try.prog 80 = true := by kernel_rfl
@[go_sem] theorem sz80 : szOf Try.prog 80 = 1 := by kernel_rfl
@[go_sem] theorem by80 : bytesOf Try.prog 80 = 8 := by kernel_rfl
@[go_sem] theorem ag80 : aggT Try.prog 80 = false := by kernel_rfl
@[go_sem] theorem un80 : Program.underlying Try.prog 80 = some (.int .u64) := by kernel_rfl
@[go_sem] theorem zs80 : (zeroV Try.prog 80).isSome = true := by kernel_rfl
@[go_sem] theorem zc80 : azeroCells Try.prog 80 = [.int .u64 0] := by kernel_rfl
@[go_sem] theorem zv80 : azero Try.prog 80 = .int .u64 0 := by kernel_rfl
@[go_sem] theorem ok84 : okT Try.prog 84 = true := by kernel_rfl
@[go_sem] theorem sz84 : szOf Try.prog 84 = 1 := by kernel_rfl
@[go_sem] theorem by84 : bytesOf Try.prog 84 = 8 := by kernel_rfl
@[go_sem] theorem ag84 : aggT Try.prog 84 = false := by kernel_rfl
@[go_sem] theorem zs84 : (zeroV Try.prog 84).isSome = true := by kernel_rfl
@[go_sem] theorem zc84 : azeroCells Try.prog 84 = [.any] := by kernel_rfl
@[go_sem] theorem zv84 : azero Try.prog 84 = .any := by kernel_rfl
@[go_sem] theorem ok86 : okT Try.prog 86 = true := by kernel_rfl
@[go_sem] theorem sz86 : szOf Try.prog 86 = 1 := by kernel_rfl
@[go_sem] theorem by86 : bytesOf Try.prog 86 = 8 := by kernel_rfl
@[go_sem] theorem ag86 : aggT Try.prog 86 = false := by kernel_rfl
@[go_sem] theorem zs86 : (zeroV Try.prog 86).isSome = true := by kernel_rfl
@[go_sem] theorem zc86 : azeroCells Try.prog 86 = [.any] := by kernel_rfl
@[go_sem] theorem zv86 : azero Try.prog 86 = .any := by kernel_rfl
end Go.Proofs.Ytacfmeobdobhhaa
