/-
  Facts on the types of the seat's program, printed by a small program of our own (wip/TypesGen.lean.txt).
-/
import Derived.Test.YtifkiiglkglhlaaChecked
import Derived.Test.YtifkiiglkglhlaaSkC
import Derived.Test.YtifkiiglkglhlaaSkH
import Derived.KernelRfl
namespace Go.Proofs.Ytifkiiglkglhlaa
open Go Go.Ab
theorem Try.mixed : Try.prog.follows .mixedOrders = true := by kernel_rfl
@[go_sem] theorem ok3 : okT Try.prog 3 = true := by kernel_rfl
@[go_sem] theorem sz3 : szOf Try.prog 3 = 1 := by kernel_rfl
@[go_sem] theorem by3 : bytesOf Try.prog 3 = 8 := by kernel_rfl
@[go_sem] theorem ag3 : aggT Try.prog 3 = false := by kernel_rfl
@[go_sem] theorem un3 : Program.underlying Try.prog 3 = some (.int .i64) := by kernel_rfl
@[go_sem] theorem zs3 : (zeroV Try.prog 3).isSome = true := by kernel_rfl
@[go_sem] theorem zc3 : azeroCells Try.prog 3 = [.int .i64 0] := by kernel_rfl
@[go_sem] theorem zv3 : azero Try.prog 3 = .int .i64 0 := by kernel_rfl
@[go_sem] theorem ok4 : okT Try.prog 4 = true := by kernel_rfl
@[go_sem] theorem sz4 : szOf Try.prog 4 = 1 := by kernel_rfl
@[go_sem] theorem by4 : bytesOf Try.prog 4 = 1 := by kernel_rfl
@[go_sem] theorem ag4 : aggT Try.prog 4 = false := by kernel_rfl
@[go_sem] theorem un4 : Program.underlying Try.prog 4 = some (.bool) := by kernel_rfl
@[go_sem] theorem zs4 : (zeroV Try.prog 4).isSome = true := by kernel_rfl
@[go_sem] theorem zc4 : azeroCells Try.prog 4 = [.bool false] := by kernel_rfl
@[go_sem] theorem zv4 : azero Try.prog 4 = .bool false := by kernel_rfl
@[go_sem] theorem ok5 : okT Try.prog 5 = true := by kernel_rfl
@[go_sem] theorem sz5 : szOf Try.prog 5 = 1 := by kernel_rfl
@[go_sem] theorem by5 : bytesOf Try.prog 5 = 1 := by kernel_rfl
@[go_sem] theorem ag5 : aggT Try.prog 5 = false := by kernel_rfl
@[go_sem] theorem un5 : Program.underlying Try.prog 5 = some (.int .u8) := by kernel_rfl
@[go_sem] theorem zs5 : (zeroV Try.prog 5).isSome = true := by kernel_rfl
@[go_sem] theorem zc5 : azeroCells Try.prog 5 = [.int .u8 0] := by kernel_rfl
@[go_sem] theorem zv5 : azero Try.prog 5 = .int .u8 0 := by kernel_rfl
@[go_sem] theorem ok22 : okT Try.prog 22 = true := by kernel_rfl
@[go_sem] theorem sz22 : szOf Try.prog 22 = 1 := by kernel_rfl
@[go_sem] theorem by22 : bytesOf Try.prog 22 = 24 := by kernel_rfl
@[go_sem] theorem ag22 : aggT Try.prog 22 = false := by kernel_rfl
@[go_sem] theorem un22 : Program.underlying Try.prog 22 = some (.slice 33) := by kernel_rfl
@[go_sem] theorem el22 : elemT Try.prog 22 = some 33 := by kernel_rfl
@[go_sem] theorem zs22 : (zeroV Try.prog 22).isSome = true := by kernel_rfl
@[go_sem] theorem zc22 : azeroCells Try.prog 22 = [.nils] := by kernel_rfl
@[go_sem] theorem zv22 : azero Try.prog 22 = .nils := by kernel_rfl
@[go_sem] theorem ok23 : okT Try.prog 23 = true := by kernel_rfl
@[go_sem] theorem sz23 : szOf Try.prog 23 = 1 := by kernel_rfl
@[go_sem] theorem by23 : bytesOf Try.prog 23 = 24 := by kernel_rfl
@[go_sem] theorem ag23 : aggT Try.prog 23 = false := by kernel_rfl
@[go_sem] theorem un23 : Program.underlying Try.prog 23 = some (.slice 37) := by kernel_rfl
@[go_sem] theorem el23 : elemT Try.prog 23 = some 37 := by kernel_rfl
@[go_sem] theorem zs23 : (zeroV Try.prog 23).isSome = true := by kernel_rfl
@[go_sem] theorem zc23 : azeroCells Try.prog 23 = [.nils] := by kernel_rfl
@[go_sem] theorem zv23 : azero Try.prog 23 = .nils := by kernel_rfl
@[go_sem] theorem ok24 : okT Try.prog 24 = true := by kernel_rfl
@[go_sem] theorem sz24 : szOf Try.prog 24 = 1 := by kernel_rfl
@[go_sem] theorem by24 : bytesOf Try.prog 24 = 24 := by kernel_rfl
@[go_sem] theorem ag24 : aggT Try.prog 24 = false := by kernel_rfl
@[go_sem] theorem un24 : Program.underlying Try.prog 24 = some (.slice 41) := by kernel_rfl
@[go_sem] theorem el24 : elemT Try.prog 24 = some 41 := by kernel_rfl
@[go_sem] theorem zs24 : (zeroV Try.prog 24).isSome = true := by kernel_rfl
@[go_sem] theorem zc24 : azeroCells Try.prog 24 = [.nils] := by kernel_rfl
@[go_sem] theorem zv24 : azero Try.prog 24 = .nils := by kernel_rfl
@[go_sem] theorem ok25 : okT Try.prog 25 = true := by kernel_rfl
@[go_sem] theorem sz25 : szOf Try.prog 25 = 1 := by kernel_rfl
@[go_sem] theorem by25 : bytesOf Try.prog 25 = 24 := by kernel_rfl
@[go_sem] theorem ag25 : aggT Try.prog 25 = false := by kernel_rfl
@[go_sem] theorem un25 : Program.underlying Try.prog 25 = some (.slice 3) := by kernel_rfl
@[go_sem] theorem el25 : elemT Try.prog 25 = some 3 := by kernel_rfl
@[go_sem] theorem zs25 : (zeroV Try.prog 25).isSome = true := by kernel_rfl
@[go_sem] theorem zc25 : azeroCells Try.prog 25 = [.nils] := by kernel_rfl
@[go_sem] theorem zv25 : azero Try.prog 25 = .nils := by kernel_rfl
@[go_sem] theorem ok27 : okT Try.prog 27 = true := by kernel_rfl
@[go_sem] theorem sz27 : szOf Try.prog 27 = 4 := by kernel_rfl
@[go_sem] theorem by27 : bytesOf Try.prog 27 = 96 := by kernel_rfl
@[go_sem] theorem ag27 : aggT Try.prog 27 = true := by kernel_rfl
@[go_sem] theorem zs27 : (zeroV Try.prog 27).isSome = true := by kernel_rfl
@[go_sem] theorem zc27 : azeroCells Try.prog 27 = [.nils, .nils, .nils, .nils] := by kernel_rfl
@[go_sem] theorem zv27 : azero Try.prog 27 = .agg [.nils, .nils, .nils, .nils] := by kernel_rfl
@[go_sem] theorem fi27x0 : fieldT Try.prog 27 0 = some (0, 1) := by kernel_rfl
@[go_sem] theorem fi27x1 : fieldT Try.prog 27 1 = some (1, 1) := by kernel_rfl
@[go_sem] theorem fi27x2 : fieldT Try.prog 27 2 = some (2, 1) := by kernel_rfl
@[go_sem] theorem fi27x3 : fieldT Try.prog 27 3 = some (3, 1) := by kernel_rfl
@[go_sem] theorem pl27 : placesOf Try.prog 27 = some [(0, 1), (1, 1), (2, 1), (3, 1)] := by kernel_rfl
@[go_sem] theorem ok30 : okT Try.prog 30 = true := by kernel_rfl
@[go_sem] theorem sz30 : szOf Try.prog 30 = 1 := by kernel_rfl
@[go_sem] theorem by30 : bytesOf Try.prog 30 = 8 := by kernel_rfl
@[go_sem] theorem ag30 : aggT Try.prog 30 = false := by kernel_rfl
@[go_sem] theorem un30 : Program.underlying Try.prog 30 = some (.int .i64) := by kernel_rfl
@[go_sem] theorem zs30 : (zeroV Try.prog 30).isSome = true := by kernel_rfl
@[go_sem] theorem zc30 : azeroCells Try.prog 30 = [.int .i64 0] := by kernel_rfl
@[go_sem] theorem zv30 : azero Try.prog 30 = .int .i64 0 := by kernel_rfl
@[go_sem] theorem ok33 : okT Try.prog 33 = true := by kernel_rfl
@[go_sem] theorem sz33 : szOf Try.prog 33 = 2 := by kernel_rfl
@[go_sem] theorem by33 : bytesOf Try.prog 33 = 16 := by kernel_rfl
@[go_sem] theorem ag33 : aggT Try.prog 33 = true := by kernel_rfl
@[go_sem] theorem zs33 : (zeroV Try.prog 33).isSome = true := by kernel_rfl
@[go_sem] theorem zc33 : azeroCells Try.prog 33 = [.int .i64 0, .int .i64 0] := by kernel_rfl
@[go_sem] theorem zv33 : azero Try.prog 33 = .agg [.int .i64 0, .int .i64 0] := by kernel_rfl
@[go_sem] theorem fi33x0 : fieldT Try.prog 33 0 = some (0, 1) := by kernel_rfl
@[go_sem] theorem fi33x1 : fieldT Try.prog 33 1 = some (1, 1) := by kernel_rfl
@[go_sem] theorem pl33 : placesOf Try.prog 33 = some [(0, 1), (1, 1)] := by kernel_rfl
@[go_sem] theorem eo33 : eqOffs Try.prog 33 = some [(0, false), (1, false)] := by kernel_rfl
@[go_sem] theorem ok37 : okT Try.prog 37 = true := by kernel_rfl
@[go_sem] theorem sz37 : szOf Try.prog 37 = 8 := by kernel_rfl
@[go_sem] theorem by37 : bytesOf Try.prog 37 = 64 := by kernel_rfl
@[go_sem] theorem ag37 : aggT Try.prog 37 = true := by kernel_rfl
@[go_sem] theorem zs37 : (zeroV Try.prog 37).isSome = true := by kernel_rfl
@[go_sem] theorem zc37 : azeroCells Try.prog 37 = [.int .i64 0, .int .i64 0, .int .i64 0, .int .i64 0, .int .i64 0, .int .i64 0, .int .i64 0, .int .i64 0] := by kernel_rfl
@[go_sem] theorem zv37 : azero Try.prog 37 = .agg [.int .i64 0, .int .i64 0, .int .i64 0, .int .i64 0, .int .i64 0, .int .i64 0, .int .i64 0, .int .i64 0] := by kernel_rfl
@[go_sem] theorem fi37x0 : fieldT Try.prog 37 0 = some (0, 1) := by kernel_rfl
@[go_sem] theorem fi37x1 : fieldT Try.prog 37 1 = some (1, 1) := by kernel_rfl
@[go_sem] theorem fi37x2 : fieldT Try.prog 37 2 = some (2, 1) := by kernel_rfl
@[go_sem] theorem fi37x3 : fieldT Try.prog 37 3 = some (3, 1) := by kernel_rfl
@[go_sem] theorem fi37x4 : fieldT Try.prog 37 4 = some (4, 1) := by kernel_rfl
@[go_sem] theorem fi37x5 : fieldT Try.prog 37 5 = some (5, 1) := by kernel_rfl
@[go_sem] theorem fi37x6 : fieldT Try.prog 37 6 = some (6, 1) := by kernel_rfl
@[go_sem] theorem fi37x7 : fieldT Try.prog 37 7 = some (7, 1) := by kernel_rfl
@[go_sem] theorem pl37 : placesOf Try.prog 37 = some [(0, 1), (1, 1), (2, 1), (3, 1), (4, 1), (5, 1), (6, 1), (7, 1)] := by kernel_rfl
@[go_sem] theorem eo37 : eqOffs Try.prog 37 = some [(0, false), (1, false), (2, false), (3, false), (4, false), (5, false), (6, false), (7, false)] := by kernel_rfl
@[go_sem] theorem ok41 : okT Try.prog 41 = true := by kernel_rfl
@[go_sem] theorem sz41 : szOf Try.prog 41 = 7 := by kernel_rfl
@[go_sem] theorem by41 : bytesOf Try.prog 41 = 56 := by kernel_rfl
@[go_sem] theorem ag41 : aggT Try.prog 41 = true := by kernel_rfl
@[go_sem] theorem zs41 : (zeroV Try.prog 41).isSome = true := by kernel_rfl
@[go_sem] theorem zc41 : azeroCells Try.prog 41 = [.int .i64 0, .int .i64 0, .int .i64 0, .int .i64 0, .int .i64 0, .int .i64 0, .int .i64 0] := by kernel_rfl
@[go_sem] theorem zv41 : azero Try.prog 41 = .agg [.int .i64 0, .int .i64 0, .int .i64 0, .int .i64 0, .int .i64 0, .int .i64 0, .int .i64 0] := by kernel_rfl
@[go_sem] theorem fi41x0 : fieldT Try.prog 41 0 = some (0, 1) := by kernel_rfl
@[go_sem] theorem fi41x1 : fieldT Try.prog 41 1 = some (1, 1) := by kernel_rfl
@[go_sem] theorem fi41x2 : fieldT Try.prog 41 2 = some (2, 1) := by kernel_rfl
@[go_sem] theorem fi41x3 : fieldT Try.prog 41 3 = some (3, 1) := by kernel_rfl
@[go_sem] theorem fi41x4 : fieldT Try.prog 41 4 = some (4, 1) := by kernel_rfl
@[go_sem] theorem fi41x5 : fieldT Try.prog 41 5 = some (5, 1) := by kernel_rfl
@[go_sem] theorem fi41x6 : fieldT Try.prog 41 6 = some (6, 1) := by kernel_rfl
@[go_sem] theorem pl41 : placesOf Try.prog 41 = some [(0, 1), (1, 1), (2, 1), (3, 1), (4, 1), (5, 1), (6, 1)] := by kernel_rfl
@[go_sem] theorem eo41 : eqOffs Try.prog 41 = some [(0, false), (1, false), (2, false), (3, false), (4, false), (5, false), (6, false)] := by kernel_rfl
@[go_sem] theorem ok49 : okT Try.prog 49 = true := by kernel_rfl
@[go_sem] theorem sz49 : szOf Try.prog 49 = 1 := by kernel_rfl
@[go_sem] theorem by49 : bytesOf Try.prog 49 = 24 := by kernel_rfl
@[go_sem] theorem ag49 : aggT Try.prog 49 = false := by kernel_rfl
@[go_sem] theorem un49 : Program.underlying Try.prog 49 = some (.slice 57) := by kernel_rfl
@[go_sem] theorem el49 : elemT Try.prog 49 = some 57 := by kernel_rfl
@[go_sem] theorem zs49 : (zeroV Try.prog 49).isSome = true := by kernel_rfl
@[go_sem] theorem zc49 : azeroCells Try.prog 49 = [.nils] := by kernel_rfl
@[go_sem] theorem zv49 : azero Try.prog 49 = .nils := by kernel_rfl
@[go_sem] theorem ok57 : okT Try.prog 57 = true := by kernel_rfl
@[go_sem] theorem sz57 : szOf Try.prog 57 = 4 := by kernel_rfl
@[go_sem] theorem by57 : bytesOf Try.prog 57 = 32 := by kernel_rfl
@[go_sem] theorem ag57 : aggT Try.prog 57 = true := by kernel_rfl
@[go_sem] theorem zs57 : (zeroV Try.prog 57).isSome = true := by kernel_rfl
@[go_sem] theorem zc57 : azeroCells Try.prog 57 = [.int .i64 0, .int .i64 0, .int .i64 0, .int .i64 0] := by kernel_rfl
@[go_sem] theorem zv57 : azero Try.prog 57 = .agg [.int .i64 0, .int .i64 0, .int .i64 0, .int .i64 0] := by kernel_rfl
@[go_sem] theorem fi57x0 : fieldT Try.prog 57 0 = some (0, 1) := by kernel_rfl
@[go_sem] theorem fi57x1 : fieldT Try.prog 57 1 = some (1, 1) := by kernel_rfl
@[go_sem] theorem fi57x2 : fieldT Try.prog 57 2 = some (2, 1) := by kernel_rfl
@[go_sem] theorem fi57x3 : fieldT Try.prog 57 3 = some (3, 1) := by kernel_rfl
@[go_sem] theorem pl57 : placesOf Try.prog 57 = some [(0, 1), (1, 1), (2, 1), (3, 1)] := by kernel_rfl
@[go_sem] theorem eo57 : eqOffs Try.prog 57 = some [(0, false), (1, false), (2, false), (3, false)] := by kernel_rfl
@[go_sem] theorem ok67 : okT Try.prog 67 = true := by kernel_rfl
@[go_sem] theorem sz67 : szOf Try.prog 67 = 1 := by kernel_rfl
@[go_sem] theorem by67 : bytesOf Try.prog 67 = 8 := by kernel_rfl
@[go_sem] theorem ag67 : aggT Try.prog 67 = false := by kernel_rfl
@[go_sem] theorem un67 : Program.underlying Try.prog 67 = some (.map 3 3) := by kernel_rfl
@[go_sem] theorem ke67 : keyT Try.prog 67 = some 3 := by kernel_rfl
@[go_sem] theorem zs67 : (zeroV Try.prog 67).isSome = true := by kernel_rfl
@[go_sem] theorem zc67 : azeroCells Try.prog 67 = [.nilm] := by kernel_rfl
@[go_sem] theorem zv67 : azero Try.prog 67 = .nilm := by kernel_rfl
@[go_sem] theorem ok70 : okT Try.prog 70 = true := by kernel_rfl
@[go_sem] theorem sz70 : szOf Try.prog 70 = 1 := by kernel_rfl
@[go_sem] theorem by70 : bytesOf Try.prog 70 = 8 := by kernel_rfl
@[go_sem] theorem ag70 : aggT Try.prog 70 = false := by kernel_rfl
@[go_sem] theorem un70 : Program.underlying Try.prog 70 = some (.map 3 4) := by kernel_rfl
@[go_sem] theorem ke70 : keyT Try.prog 70 = some 4 := by kernel_rfl
@[go_sem] theorem zs70 : (zeroV Try.prog 70).isSome = true := by kernel_rfl
@[go_sem] theorem zc70 : azeroCells Try.prog 70 = [.nilm] := by kernel_rfl
@[go_sem] theorem zv70 : azero Try.prog 70 = .nilm := by kernel_rfl
end Go.Proofs.Ytifkiiglkglhlaa
