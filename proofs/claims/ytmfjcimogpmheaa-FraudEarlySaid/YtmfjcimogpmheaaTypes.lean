/-
  Facts on the types of the seat's program, printed by a small program of our own (wip/TypesGen.lean.txt).
-/
import Derived.Test.YtmfjcimogpmheaaChecked
import Derived.Test.YtmfjcimogpmheaaSkC
import Derived.Test.YtmfjcimogpmheaaSkZF
import Derived.KernelRfl
namespace Go.Proofs.Ytmfjcimogpmheaa
open Go Go.Ab
theorem Try.mixed : Try.prog.follows .mixedOrders = true := by kernel_rfl
@[go_sem] theorem ok3 : okT Try.prog 3 = true := by kernel_rfl
@[go_sem] theorem sz3 : szOf Try.prog 3 = 1 := by kernel_rfl
@[go_sem] theorem by3 : bytesOf Try.prog 3 = 8 := by kernel_rfl
@[go_sem] theorem ag3 : aggT Try.prog 3 = false := by kernel_rfl
@[go_sem] theorem un3 : Program.underlying Try.prog 3 = some (.int .i64) := by kernel_rfl
@[go_sem] theorem zs3 : (zeroV Try.prog 3).isSome = true := by kernel_rfl
@[go_sem] theorem zc3 : azeroCells Try.prog 3 = [.int .i64 0] := by kernel_rfl
@[go_sem] theorem zv3 : azero Try.prog 3 = .int .i64 0 := by kernel_rfl
@[go_sem] theorem ok4 : okT Try.prog 4 = true := by kernel_rfl
@[go_sem] theorem sz4 : szOf Try.prog 4 = 1 := by kernel_rfl
@[go_sem] theorem by4 : bytesOf Try.prog 4 = 1 := by kernel_rfl
@[go_sem] theorem ag4 : aggT Try.prog 4 = false := by kernel_rfl
@[go_sem] theorem un4 : Program.underlying Try.prog 4 = some (.bool) := by kernel_rfl
@[go_sem] theorem zs4 : (zeroV Try.prog 4).isSome = true := by kernel_rfl
@[go_sem] theorem zc4 : azeroCells Try.prog 4 = [.bool false] := by kernel_rfl
@[go_sem] theorem zv4 : azero Try.prog 4 = .bool false := by kernel_rfl
@[go_sem] theorem ok5 : okT Try.prog 5 = true := by kernel_rfl
@[go_sem] theorem sz5 : szOf Try.prog 5 = 1 := by kernel_rfl
@[go_sem] theorem by5 : bytesOf Try.prog 5 = 1 := by kernel_rfl
@[go_sem] theorem ag5 : aggT Try.prog 5 = false := by kernel_rfl
@[go_sem] theorem un5 : Program.underlying Try.prog 5 = some (.int .u8) := by kernel_rfl
@[go_sem] theorem zs5 : (zeroV Try.prog 5).isSome = true := by kernel_rfl
@[go_sem] theorem zc5 : azeroCells Try.prog 5 = [.int .u8 0] := by kernel_rfl
@[go_sem] theorem zv5 : azero Try.prog 5 = .int .u8 0 := by kernel_rfl
@[go_sem] theorem ok9 : okT Try.prog 9 = true := by kernel_rfl
@[go_sem] theorem sz9 : szOf Try.prog 9 = 1 := by kernel_rfl
@[go_sem] theorem by9 : bytesOf Try.prog 9 = 16 := by kernel_rfl
@[go_sem] theorem ag9 : aggT Try.prog 9 = false := by kernel_rfl
@[go_sem] theorem un9 : Program.underlying Try.prog 9 = some (.string) := by kernel_rfl
@[go_sem] theorem zs9 : (zeroV Try.prog 9).isSome = true := by kernel_rfl
@[go_sem] theorem zc9 : azeroCells Try.prog 9 = [.str ByteArray.empty] := by kernel_rfl
@[go_sem] theorem zv9 : azero Try.prog 9 = .str ByteArray.empty := by kernel_rfl
@[go_sem] theorem ok22 : okT Try.prog 22 = true := by kernel_rfl
@[go_sem] theorem sz22 : szOf Try.prog 22 = 1 := by kernel_rfl
@[go_sem] theorem by22 : bytesOf Try.prog 22 = 24 := by kernel_rfl
@[go_sem] theorem ag22 : aggT Try.prog 22 = false := by kernel_rfl
@[go_sem] theorem un22 : Program.underlying Try.prog 22 = some (.slice 88) := by kernel_rfl
@[go_sem] theorem el22 : elemT Try.prog 22 = some 88 := by kernel_rfl
@[go_sem] theorem zs22 : (zeroV Try.prog 22).isSome = true := by kernel_rfl
@[go_sem] theorem zc22 : azeroCells Try.prog 22 = [.nils] := by kernel_rfl
@[go_sem] theorem zv22 : azero Try.prog 22 = .nils := by kernel_rfl
@[go_sem] theorem ok23 : okT Try.prog 23 = true := by kernel_rfl
@[go_sem] theorem sz23 : szOf Try.prog 23 = 1 := by kernel_rfl
@[go_sem] theorem by23 : bytesOf Try.prog 23 = 24 := by kernel_rfl
@[go_sem] theorem ag23 : aggT Try.prog 23 = false := by kernel_rfl
@[go_sem] theorem un23 : Program.underlying Try.prog 23 = some (.slice 59) := by kernel_rfl
@[go_sem] theorem el23 : elemT Try.prog 23 = some 59 := by kernel_rfl
@[go_sem] theorem zs23 : (zeroV Try.prog 23).isSome = true := by kernel_rfl
@[go_sem] theorem zc23 : azeroCells Try.prog 23 = [.nils] := by kernel_rfl
@[go_sem] theorem zv23 : azero Try.prog 23 = .nils := by kernel_rfl
@[go_sem] theorem ok24 : okT Try.prog 24 = true := by kernel_rfl
@[go_sem] theorem sz24 : szOf Try.prog 24 = 1 := by kernel_rfl
@[go_sem] theorem by24 : bytesOf Try.prog 24 = 24 := by kernel_rfl
@[go_sem] theorem ag24 : aggT Try.prog 24 = false := by kernel_rfl
@[go_sem] theorem un24 : Program.underlying Try.prog 24 = some (.slice 64) := by kernel_rfl
@[go_sem] theorem el24 : elemT Try.prog 24 = some 64 := by kernel_rfl
@[go_sem] theorem zs24 : (zeroV Try.prog 24).isSome = true := by kernel_rfl
@[go_sem] theorem zc24 : azeroCells Try.prog 24 = [.nils] := by kernel_rfl
@[go_sem] theorem zv24 : azero Try.prog 24 = .nils := by kernel_rfl
@[go_sem] theorem ok25 : okT Try.prog 25 = true := by kernel_rfl
@[go_sem] theorem sz25 : szOf Try.prog 25 = 1 := by kernel_rfl
@[go_sem] theorem by25 : bytesOf Try.prog 25 = 24 := by kernel_rfl
@[go_sem] theorem ag25 : aggT Try.prog 25 = false := by kernel_rfl
@[go_sem] theorem un25 : Program.underlying Try.prog 25 = some (.slice 3) := by kernel_rfl
@[go_sem] theorem el25 : elemT Try.prog 25 = some 3 := by kernel_rfl
@[go_sem] theorem zs25 : (zeroV Try.prog 25).isSome = true := by kernel_rfl
@[go_sem] theorem zc25 : azeroCells Try.prog 25 = [.nils] := by kernel_rfl
@[go_sem] theorem zv25 : azero Try.prog 25 = .nils := by kernel_rfl
@[go_sem] theorem ok27 : okT Try.prog 27 = true := by kernel_rfl
@[go_sem] theorem sz27 : szOf Try.prog 27 = 4 := by kernel_rfl
@[go_sem] theorem by27 : bytesOf Try.prog 27 = 96 := by kernel_rfl
@[go_sem] theorem ag27 : aggT Try.prog 27 = true := by kernel_rfl
@[go_sem] theorem zs27 : (zeroV Try.prog 27).isSome = true := by kernel_rfl
@[go_sem] theorem zc27 : azeroCells Try.prog 27 = [.nils, .nils, .nils, .nils] := by kernel_rfl
@[go_sem] theorem zv27 : azero Try.prog 27 = .agg [.nils, .nils, .nils, .nils] := by kernel_rfl
@[go_sem] theorem fi27x0 : fieldT Try.prog 27 0 = some (0, 1) := by kernel_rfl
@[go_sem] theorem fi27x1 : fieldT Try.prog 27 1 = some (1, 1) := by kernel_rfl
@[go_sem] theorem fi27x2 : fieldT Try.prog 27 2 = some (2, 1) := by kernel_rfl
@[go_sem] theorem fi27x3 : fieldT Try.prog 27 3 = some (3, 1) := by kernel_rfl
@[go_sem] theorem pl27 : placesOf Try.prog 27 = some [(0, 1), (1, 1), (2, 1), (3, 1)] := by kernel_rfl
@[go_sem] theorem ok29 : okT Try.prog 29 = true := by kernel_rfl
@[go_sem] theorem sz29 : szOf Try.prog 29 = 1 := by kernel_rfl
@[go_sem] theorem by29 : bytesOf Try.prog 29 = 8 := by kernel_rfl
@[go_sem] theorem ag29 : aggT Try.prog 29 = false := by kernel_rfl
@[go_sem] theorem un29 : Program.underlying Try.prog 29 = some (.int .i64) := by kernel_rfl
@[go_sem] theorem zs29 : (zeroV Try.prog 29).isSome = true := by kernel_rfl
@[go_sem] theorem zc29 : azeroCells Try.prog 29 = [.int .i64 0] := by kernel_rfl
@[go_sem] theorem zv29 : azero Try.prog 29 = .int .i64 0 := by kernel_rfl
@[go_sem] theorem ok34 : okT Try.prog 34 = true := by kernel_rfl
@[go_sem] theorem sz34 : szOf Try.prog 34 = 1 := by kernel_rfl
@[go_sem] theorem by34 : bytesOf Try.prog 34 = 24 := by kernel_rfl
@[go_sem] theorem ag34 : aggT Try.prog 34 = false := by kernel_rfl
@[go_sem] theorem un34 : Program.underlying Try.prog 34 = some (.slice 51) := by kernel_rfl
@[go_sem] theorem el34 : elemT Try.prog 34 = some 51 := by kernel_rfl
@[go_sem] theorem zs34 : (zeroV Try.prog 34).isSome = true := by kernel_rfl
@[go_sem] theorem zc34 : azeroCells Try.prog 34 = [.nils] := by kernel_rfl
@[go_sem] theorem zv34 : azero Try.prog 34 = .nils := by kernel_rfl
@[go_sem] theorem ok36 : okT Try.prog 36 = true := by kernel_rfl
@[go_sem] theorem sz36 : szOf Try.prog 36 = 1 := by kernel_rfl
@[go_sem] theorem by36 : bytesOf Try.prog 36 = 24 := by kernel_rfl
@[go_sem] theorem ag36 : aggT Try.prog 36 = false := by kernel_rfl
@[go_sem] theorem un36 : Program.underlying Try.prog 36 = some (.slice 53) := by kernel_rfl
@[go_sem] theorem el36 : elemT Try.prog 36 = some 53 := by kernel_rfl
@[go_sem] theorem zs36 : (zeroV Try.prog 36).isSome = true := by kernel_rfl
@[go_sem] theorem zc36 : azeroCells Try.prog 36 = [.nils] := by kernel_rfl
@[go_sem] theorem zv36 : azero Try.prog 36 = .nils := by kernel_rfl
@[go_sem] theorem ok43 : okT Try.prog 43 = true := by kernel_rfl
@[go_sem] theorem sz43 : szOf Try.prog 43 = 1 := by kernel_rfl
@[go_sem] theorem by43 : bytesOf Try.prog 43 = 24 := by kernel_rfl
@[go_sem] theorem ag43 : aggT Try.prog 43 = false := by kernel_rfl
@[go_sem] theorem un43 : Program.underlying Try.prog 43 = some (.slice 49) := by kernel_rfl
@[go_sem] theorem el43 : elemT Try.prog 43 = some 49 := by kernel_rfl
@[go_sem] theorem zs43 : (zeroV Try.prog 43).isSome = true := by kernel_rfl
@[go_sem] theorem zc43 : azeroCells Try.prog 43 = [.nils] := by kernel_rfl
@[go_sem] theorem zv43 : azero Try.prog 43 = .nils := by kernel_rfl
@[go_sem] theorem ok49 : okT Try.prog 49 = true := by kernel_rfl
@[go_sem] theorem sz49 : szOf Try.prog 49 = 2 := by kernel_rfl
@[go_sem] theorem by49 : bytesOf Try.prog 49 = 2 := by kernel_rfl
@[go_sem] theorem ag49 : aggT Try.prog 49 = true := by kernel_rfl
@[go_sem] theorem zs49 : (zeroV Try.prog 49).isSome = true := by kernel_rfl
@[go_sem] theorem zc49 : azeroCells Try.prog 49 = [.int .u8 0, .int .u8 0] := by kernel_rfl
@[go_sem] theorem zv49 : azero Try.prog 49 = .agg [.int .u8 0, .int .u8 0] := by kernel_rfl
@[go_sem] theorem fi49x0 : fieldT Try.prog 49 0 = some (0, 1) := by kernel_rfl
@[go_sem] theorem fi49x1 : fieldT Try.prog 49 1 = some (1, 1) := by kernel_rfl
@[go_sem] theorem pl49 : placesOf Try.prog 49 = some [(0, 1), (1, 1)] := by kernel_rfl
@[go_sem] theorem eo49 : eqOffs Try.prog 49 = some [(0, false), (1, false)] := by kernel_rfl
@[go_sem] theorem ok51 : okT Try.prog 51 = true := by kernel_rfl
@[go_sem] theorem sz51 : szOf Try.prog 51 = 7 := by kernel_rfl
@[go_sem] theorem by51 : bytesOf Try.prog 51 = 56 := by kernel_rfl
@[go_sem] theorem ag51 : aggT Try.prog 51 = true := by kernel_rfl
@[go_sem] theorem zs51 : (zeroV Try.prog 51).isSome = true := by kernel_rfl
@[go_sem] theorem zc51 : azeroCells Try.prog 51 = [.int .i64 0, .int .i64 0, .int .i64 0, .int .i64 0, .int .i64 0, .int .i64 0, .int .i64 0] := by kernel_rfl
@[go_sem] theorem zv51 : azero Try.prog 51 = .agg [.int .i64 0, .int .i64 0, .int .i64 0, .int .i64 0, .int .i64 0, .int .i64 0, .int .i64 0] := by kernel_rfl
@[go_sem] theorem fi51x0 : fieldT Try.prog 51 0 = some (0, 1) := by kernel_rfl
@[go_sem] theorem fi51x1 : fieldT Try.prog 51 1 = some (1, 1) := by kernel_rfl
@[go_sem] theorem fi51x2 : fieldT Try.prog 51 2 = some (2, 1) := by kernel_rfl
@[go_sem] theorem fi51x3 : fieldT Try.prog 51 3 = some (3, 1) := by kernel_rfl
@[go_sem] theorem fi51x4 : fieldT Try.prog 51 4 = some (4, 1) := by kernel_rfl
@[go_sem] theorem fi51x5 : fieldT Try.prog 51 5 = some (5, 1) := by kernel_rfl
@[go_sem] theorem fi51x6 : fieldT Try.prog 51 6 = some (6, 1) := by kernel_rfl
@[go_sem] theorem pl51 : placesOf Try.prog 51 = some [(0, 1), (1, 1), (2, 1), (3, 1), (4, 1), (5, 1), (6, 1)] := by kernel_rfl
@[go_sem] theorem eo51 : eqOffs Try.prog 51 = some [(0, false), (1, false), (2, false), (3, false), (4, false), (5, false), (6, false)] := by kernel_rfl
@[go_sem] theorem ok53 : okT Try.prog 53 = true := by kernel_rfl
@[go_sem] theorem sz53 : szOf Try.prog 53 = 2 := by kernel_rfl
@[go_sem] theorem by53 : bytesOf Try.prog 53 = 16 := by kernel_rfl
@[go_sem] theorem ag53 : aggT Try.prog 53 = true := by kernel_rfl
@[go_sem] theorem zs53 : (zeroV Try.prog 53).isSome = true := by kernel_rfl
@[go_sem] theorem zc53 : azeroCells Try.prog 53 = [.int .i64 0, .int .i64 0] := by kernel_rfl
@[go_sem] theorem zv53 : azero Try.prog 53 = .agg [.int .i64 0, .int .i64 0] := by kernel_rfl
@[go_sem] theorem fi53x0 : fieldT Try.prog 53 0 = some (0, 1) := by kernel_rfl
@[go_sem] theorem fi53x1 : fieldT Try.prog 53 1 = some (1, 1) := by kernel_rfl
@[go_sem] theorem pl53 : placesOf Try.prog 53 = some [(0, 1), (1, 1)] := by kernel_rfl
@[go_sem] theorem eo53 : eqOffs Try.prog 53 = some [(0, false), (1, false)] := by kernel_rfl
@[go_sem] theorem ok59 : okT Try.prog 59 = true := by kernel_rfl
@[go_sem] theorem sz59 : szOf Try.prog 59 = 8 := by kernel_rfl
@[go_sem] theorem by59 : bytesOf Try.prog 59 = 64 := by kernel_rfl
@[go_sem] theorem ag59 : aggT Try.prog 59 = true := by kernel_rfl
@[go_sem] theorem zs59 : (zeroV Try.prog 59).isSome = true := by kernel_rfl
@[go_sem] theorem zc59 : azeroCells Try.prog 59 = [.int .i64 0, .int .i64 0, .int .i64 0, .int .i64 0, .int .i64 0, .int .i64 0, .int .i64 0, .int .i64 0] := by kernel_rfl
@[go_sem] theorem zv59 : azero Try.prog 59 = .agg [.int .i64 0, .int .i64 0, .int .i64 0, .int .i64 0, .int .i64 0, .int .i64 0, .int .i64 0, .int .i64 0] := by kernel_rfl
@[go_sem] theorem fi59x0 : fieldT Try.prog 59 0 = some (0, 1) := by kernel_rfl
@[go_sem] theorem fi59x1 : fieldT Try.prog 59 1 = some (1, 1) := by kernel_rfl
@[go_sem] theorem fi59x2 : fieldT Try.prog 59 2 = some (2, 1) := by kernel_rfl
@[go_sem] theorem fi59x3 : fieldT Try.prog 59 3 = some (3, 1) := by kernel_rfl
@[go_sem] theorem fi59x4 : fieldT Try.prog 59 4 = some (4, 1) := by kernel_rfl
@[go_sem] theorem fi59x5 : fieldT Try.prog 59 5 = some (5, 1) := by kernel_rfl
@[go_sem] theorem fi59x6 : fieldT Try.prog 59 6 = some (6, 1) := by kernel_rfl
@[go_sem] theorem fi59x7 : fieldT Try.prog 59 7 = some (7, 1) := by kernel_rfl
@[go_sem] theorem pl59 : placesOf Try.prog 59 = some [(0, 1), (1, 1), (2, 1), (3, 1), (4, 1), (5, 1), (6, 1), (7, 1)] := by kernel_rfl
@[go_sem] theorem eo59 : eqOffs Try.prog 59 = some [(0, false), (1, false), (2, false), (3, false), (4, false), (5, false), (6, false), (7, false)] := by kernel_rfl
@[go_sem] theorem ok62 : okT Try.prog 62 = true := by kernel_rfl
@[go_sem] theorem sz62 : szOf Try.prog 62 = 1 := by kernel_rfl
@[go_sem] theorem by62 : bytesOf Try.prog 62 = 24 := by kernel_rfl
@[go_sem] theorem ag62 : aggT Try.prog 62 = false := by kernel_rfl
@[go_sem] theorem un62 : Program.underlying Try.prog 62 = some (.slice 66) := by kernel_rfl
@[go_sem] theorem el62 : elemT Try.prog 62 = some 66 := by kernel_rfl
@[go_sem] theorem zs62 : (zeroV Try.prog 62).isSome = true := by kernel_rfl
@[go_sem] theorem zc62 : azeroCells Try.prog 62 = [.nils] := by kernel_rfl
@[go_sem] theorem zv62 : azero Try.prog 62 = .nils := by kernel_rfl
@[go_sem] theorem ok64 : okT Try.prog 64 = true := by kernel_rfl
@[go_sem] theorem sz64 : szOf Try.prog 64 = 7 := by kernel_rfl
@[go_sem] theorem by64 : bytesOf Try.prog 64 = 56 := by kernel_rfl
@[go_sem] theorem ag64 : aggT Try.prog 64 = true := by kernel_rfl
@[go_sem] theorem zs64 : (zeroV Try.prog 64).isSome = true := by kernel_rfl
@[go_sem] theorem zc64 : azeroCells Try.prog 64 = [.int .i64 0, .int .i64 0, .int .i64 0, .int .i64 0, .int .i64 0, .int .i64 0, .int .i64 0] := by kernel_rfl
@[go_sem] theorem zv64 : azero Try.prog 64 = .agg [.int .i64 0, .int .i64 0, .int .i64 0, .int .i64 0, .int .i64 0, .int .i64 0, .int .i64 0] := by kernel_rfl
@[go_sem] theorem fi64x0 : fieldT Try.prog 64 0 = some (0, 1) := by kernel_rfl
@[go_sem] theorem fi64x1 : fieldT Try.prog 64 1 = some (1, 1) := by kernel_rfl
@[go_sem] theorem fi64x2 : fieldT Try.prog 64 2 = some (2, 1) := by kernel_rfl
@[go_sem] theorem fi64x3 : fieldT Try.prog 64 3 = some (3, 1) := by kernel_rfl
@[go_sem] theorem fi64x4 : fieldT Try.prog 64 4 = some (4, 1) := by kernel_rfl
@[go_sem] theorem fi64x5 : fieldT Try.prog 64 5 = some (5, 1) := by kernel_rfl
@[go_sem] theorem fi64x6 : fieldT Try.prog 64 6 = some (6, 1) := by kernel_rfl
@[go_sem] theorem pl64 : placesOf Try.prog 64 = some [(0, 1), (1, 1), (2, 1), (3, 1), (4, 1), (5, 1), (6, 1)] := by kernel_rfl
@[go_sem] theorem eo64 : eqOffs Try.prog 64 = some [(0, false), (1, false), (2, false), (3, false), (4, false), (5, false), (6, false)] := by kernel_rfl
@[go_sem] theorem ok66 : okT Try.prog 66 = true := by kernel_rfl
@[go_sem] theorem sz66 : szOf Try.prog 66 = 4 := by kernel_rfl
@[go_sem] theorem by66 : bytesOf Try.prog 66 = 32 := by kernel_rfl
@[go_sem] theorem ag66 : aggT Try.prog 66 = true := by kernel_rfl
@[go_sem] theorem zs66 : (zeroV Try.prog 66).isSome = true := by kernel_rfl
@[go_sem] theorem zc66 : azeroCells Try.prog 66 = [.int .i64 0, .int .i64 0, .int .i64 0, .int .i64 0] := by kernel_rfl
@[go_sem] theorem zv66 : azero Try.prog 66 = .agg [.int .i64 0, .int .i64 0, .int .i64 0, .int .i64 0] := by kernel_rfl
@[go_sem] theorem fi66x0 : fieldT Try.prog 66 0 = some (0, 1) := by kernel_rfl
@[go_sem] theorem fi66x1 : fieldT Try.prog 66 1 = some (1, 1) := by kernel_rfl
@[go_sem] theorem fi66x2 : fieldT Try.prog 66 2 = some (2, 1) := by kernel_rfl
@[go_sem] theorem fi66x3 : fieldT Try.prog 66 3 = some (3, 1) := by kernel_rfl
@[go_sem] theorem pl66 : placesOf Try.prog 66 = some [(0, 1), (1, 1), (2, 1), (3, 1)] := by kernel_rfl
@[go_sem] theorem eo66 : eqOffs Try.prog 66 = some [(0, false), (1, false), (2, false), (3, false)] := by kernel_rfl
@[go_sem] theorem ok71 : okT Try.prog 71 = true := by kernel_rfl
@[go_sem] theorem sz71 : szOf Try.prog 71 = 1 := by kernel_rfl
@[go_sem] theorem by71 : bytesOf Try.prog 71 = 8 := by kernel_rfl
@[go_sem] theorem ag71 : aggT Try.prog 71 = false := by kernel_rfl
@[go_sem] theorem un71 : Program.underlying Try.prog 71 = some (.map 74 76) := by kernel_rfl
@[go_sem] theorem kq71 : keyQ Try.prog 71 = some 76 := by kernel_rfl
@[go_sem] theorem zs71 : (zeroV Try.prog 71).isSome = true := by kernel_rfl
@[go_sem] theorem zc71 : azeroCells Try.prog 71 = [.nilm] := by kernel_rfl
@[go_sem] theorem zv71 : azero Try.prog 71 = .nilm := by kernel_rfl
@[go_sem] theorem ok74 : okT Try.prog 74 = true := by kernel_rfl
@[go_sem] theorem sz74 : szOf Try.prog 74 = 2 := by kernel_rfl
@[go_sem] theorem by74 : bytesOf Try.prog 74 = 16 := by kernel_rfl
@[go_sem] theorem ag74 : aggT Try.prog 74 = true := by kernel_rfl
@[go_sem] theorem zs74 : (zeroV Try.prog 74).isSome = true := by kernel_rfl
@[go_sem] theorem zc74 : azeroCells Try.prog 74 = [.int .i64 0, .int .i64 0] := by kernel_rfl
@[go_sem] theorem zv74 : azero Try.prog 74 = .agg [.int .i64 0, .int .i64 0] := by kernel_rfl
@[go_sem] theorem fi74x0 : fieldT Try.prog 74 0 = some (0, 1) := by kernel_rfl
@[go_sem] theorem fi74x1 : fieldT Try.prog 74 1 = some (1, 1) := by kernel_rfl
@[go_sem] theorem pl74 : placesOf Try.prog 74 = some [(0, 1), (1, 1)] := by kernel_rfl
@[go_sem] theorem eo74 : eqOffs Try.prog 74 = some [(0, false), (1, false)] := by kernel_rfl
@[go_sem] theorem ok76 : okT Try.prog 76 = true := by kernel_rfl
@[go_sem] theorem sz76 : szOf Try.prog 76 = 2 := by kernel_rfl
@[go_sem] theorem by76 : bytesOf Try.prog 76 = 16 := by kernel_rfl
@[go_sem] theorem ag76 : aggT Try.prog 76 = true := by kernel_rfl
@[go_sem] theorem zs76 : (zeroV Try.prog 76).isSome = true := by kernel_rfl
@[go_sem] theorem zc76 : azeroCells Try.prog 76 = [.int .i64 0, .bool false] := by kernel_rfl
@[go_sem] theorem zv76 : azero Try.prog 76 = .agg [.int .i64 0, .bool false] := by kernel_rfl
@[go_sem] theorem fi76x0 : fieldT Try.prog 76 0 = some (0, 1) := by kernel_rfl
@[go_sem] theorem fi76x1 : fieldT Try.prog 76 1 = some (1, 1) := by kernel_rfl
@[go_sem] theorem pl76 : placesOf Try.prog 76 = some [(0, 1), (1, 1)] := by kernel_rfl
@[go_sem] theorem eo76 : eqOffs Try.prog 76 = some [(0, false), (1, true)] := by kernel_rfl
@[go_sem] theorem ok80 : okT Try.prog 80 = true := by kernel_rfl
@[go_sem] theorem sz80 : szOf Try.prog 80 = 1 := by kernel_rfl
@[go_sem] theorem by80 : bytesOf Try.prog 80 = 8 := by kernel_rfl
@[go_sem] theorem ag80 : aggT Try.prog 80 = false := by kernel_rfl
@[go_sem] theorem un80 : Program.underlying Try.prog 80 = some (.map 82 25) := by kernel_rfl
@[go_sem] theorem kq80 : keyQ Try.prog 80 = some 25 := by kernel_rfl
@[go_sem] theorem zs80 : (zeroV Try.prog 80).isSome = true := by kernel_rfl
@[go_sem] theorem zc80 : azeroCells Try.prog 80 = [.nilm] := by kernel_rfl
@[go_sem] theorem zv80 : azero Try.prog 80 = .nilm := by kernel_rfl
@[go_sem] theorem ok82 : okT Try.prog 82 = true := by kernel_rfl
@[go_sem] theorem sz82 : szOf Try.prog 82 = 2 := by kernel_rfl
@[go_sem] theorem by82 : bytesOf Try.prog 82 = 16 := by kernel_rfl
@[go_sem] theorem ag82 : aggT Try.prog 82 = true := by kernel_rfl
@[go_sem] theorem zs82 : (zeroV Try.prog 82).isSome = true := by kernel_rfl
@[go_sem] theorem zc82 : azeroCells Try.prog 82 = [.int .i64 0, .int .i64 0] := by kernel_rfl
@[go_sem] theorem zv82 : azero Try.prog 82 = .agg [.int .i64 0, .int .i64 0] := by kernel_rfl
@[go_sem] theorem fi82x0 : fieldT Try.prog 82 0 = some (0, 1) := by kernel_rfl
@[go_sem] theorem fi82x1 : fieldT Try.prog 82 1 = some (1, 1) := by kernel_rfl
@[go_sem] theorem pl82 : placesOf Try.prog 82 = some [(0, 1), (1, 1)] := by kernel_rfl
@[go_sem] theorem eo82 : eqOffs Try.prog 82 = some [(0, false), (1, false)] := by kernel_rfl
@[go_sem] theorem ok83 : okT Try.prog 83 = true := by kernel_rfl
@[go_sem] theorem sz83 : szOf Try.prog 83 = 1 := by kernel_rfl
@[go_sem] theorem by83 : bytesOf Try.prog 83 = 8 := by kernel_rfl
@[go_sem] theorem ag83 : aggT Try.prog 83 = false := by kernel_rfl
@[go_sem] theorem un83 : Program.underlying Try.prog 83 = some (.map 82 4) := by kernel_rfl
@[go_sem] theorem kq83 : keyQ Try.prog 83 = some 4 := by kernel_rfl
@[go_sem] theorem zs83 : (zeroV Try.prog 83).isSome = true := by kernel_rfl
@[go_sem] theorem zc83 : azeroCells Try.prog 83 = [.nilm] := by kernel_rfl
@[go_sem] theorem zv83 : azero Try.prog 83 = .nilm := by kernel_rfl
@[go_sem] theorem ok88 : okT Try.prog 88 = true := by kernel_rfl
@[go_sem] theorem sz88 : szOf Try.prog 88 = 2 := by kernel_rfl
@[go_sem] theorem by88 : bytesOf Try.prog 88 = 16 := by kernel_rfl
@[go_sem] theorem ag88 : aggT Try.prog 88 = true := by kernel_rfl
@[go_sem] theorem zs88 : (zeroV Try.prog 88).isSome = true := by kernel_rfl
@[go_sem] theorem zc88 : azeroCells Try.prog 88 = [.int .i64 0, .int .i64 0] := by kernel_rfl
@[go_sem] theorem zv88 : azero Try.prog 88 = .agg [.int .i64 0, .int .i64 0] := by kernel_rfl
@[go_sem] theorem fi88x0 : fieldT Try.prog 88 0 = some (0, 1) := by kernel_rfl
@[go_sem] theorem fi88x1 : fieldT Try.prog 88 1 = some (1, 1) := by kernel_rfl
@[go_sem] theorem pl88 : placesOf Try.prog 88 = some [(0, 1), (1, 1)] := by kernel_rfl
@[go_sem] theorem eo88 : eqOffs Try.prog 88 = some [(0, false), (1, false)] := by kernel_rfl
@[go_sem] theorem ok93 : okT Try.prog 93 = true := by kernel_rfl
@[go_sem] theorem sz93 : szOf Try.prog 93 = 1 := by kernel_rfl
@[go_sem] theorem by93 : bytesOf Try.prog 93 = 8 := by kernel_rfl
@[go_sem] theorem ag93 : aggT Try.prog 93 = false := by kernel_rfl
@[go_sem] theorem un93 : Program.underlying Try.prog 93 = some (.map 3 96) := by kernel_rfl
@[go_sem] theorem ke93 : keyT Try.prog 93 = some 96 := by kernel_rfl
@[go_sem] theorem zs93 : (zeroV Try.prog 93).isSome = true := by kernel_rfl
@[go_sem] theorem zc93 : azeroCells Try.prog 93 = [.nilm] := by kernel_rfl
@[go_sem] theorem zv93 : azero Try.prog 93 = .nilm := by kernel_rfl
@[go_sem] theorem ok96 : okT Try.prog 96 = true := by kernel_rfl
@[go_sem] theorem sz96 : szOf Try.prog 96 = 2 := by kernel_rfl
@[go_sem] theorem by96 : bytesOf Try.prog 96 = 16 := by kernel_rfl
@[go_sem] theorem ag96 : aggT Try.prog 96 = true := by kernel_rfl
@[go_sem] theorem zs96 : (zeroV Try.prog 96).isSome = true := by kernel_rfl
@[go_sem] theorem zc96 : azeroCells Try.prog 96 = [.int .i64 0, .int .i64 0] := by kernel_rfl
@[go_sem] theorem zv96 : azero Try.prog 96 = .agg [.int .i64 0, .int .i64 0] := by kernel_rfl
@[go_sem] theorem fi96x0 : fieldT Try.prog 96 0 = some (0, 1) := by kernel_rfl
@[go_sem] theorem fi96x1 : fieldT Try.prog 96 1 = some (1, 1) := by kernel_rfl
@[go_sem] theorem pl96 : placesOf Try.prog 96 = some [(0, 1), (1, 1)] := by kernel_rfl
@[go_sem] theorem eo96 : eqOffs Try.prog 96 = some [(0, false), (1, false)] := by kernel_rfl
@[go_sem] theorem ok99 : okT Try.prog 99 = true := by kernel_rfl
@[go_sem] theorem sz99 : szOf Try.prog 99 = 1 := by kernel_rfl
@[go_sem] theorem by99 : bytesOf Try.prog 99 = 8 := by kernel_rfl
@[go_sem] theorem ag99 : aggT Try.prog 99 = false := by kernel_rfl
@[go_sem] theorem zs99 : (zeroV Try.prog 99).isSome = true := by kernel_rfl
@[go_sem] theorem zc99 : azeroCells Try.prog 99 = [.any] := by kernel_rfl
@[go_sem] theorem zv99 : azero Try.prog 99 = .any := by kernel_rfl
@[go_sem] theorem ok101 : okT Try.prog 101 = true := by kernel_rfl
@[go_sem] theorem sz101 : szOf Try.prog 101 = 1 := by kernel_rfl
@[go_sem] theorem by101 : bytesOf Try.prog 101 = 24 := by kernel_rfl
@[go_sem] theorem ag101 : aggT Try.prog 101 = false := by kernel_rfl
@[go_sem] theorem un101 : Program.underlying Try.prog 101 = some (.slice 104) := by kernel_rfl
@[go_sem] theorem el101 : elemT Try.prog 101 = some 104 := by kernel_rfl
@[go_sem] theorem zs101 : (zeroV Try.prog 101).isSome = true := by kernel_rfl
@[go_sem] theorem zc101 : azeroCells Try.prog 101 = [.nils] := by kernel_rfl
@[go_sem] theorem zv101 : azero Try.prog 101 = .nils := by kernel_rfl
@[go_sem] theorem ok104 : okT Try.prog 104 = true := by kernel_rfl
@[go_sem] theorem sz104 : szOf Try.prog 104 = 3 := by kernel_rfl
@[go_sem] theorem by104 : bytesOf Try.prog 104 = 24 := by kernel_rfl
@[go_sem] theorem ag104 : aggT Try.prog 104 = true := by kernel_rfl
@[go_sem] theorem zs104 : (zeroV Try.prog 104).isSome = true := by kernel_rfl
@[go_sem] theorem zc104 : azeroCells Try.prog 104 = [.int .i64 0, .int .i64 0, .int .i64 0] := by kernel_rfl
@[go_sem] theorem zv104 : azero Try.prog 104 = .agg [.int .i64 0, .int .i64 0, .int .i64 0] := by kernel_rfl
@[go_sem] theorem fi104x0 : fieldT Try.prog 104 0 = some (0, 1) := by kernel_rfl
@[go_sem] theorem fi104x1 : fieldT Try.prog 104 1 = some (1, 1) := by kernel_rfl
@[go_sem] theorem fi104x2 : fieldT Try.prog 104 2 = some (2, 1) := by kernel_rfl
@[go_sem] theorem pl104 : placesOf Try.prog 104 = some [(0, 1), (1, 1), (2, 1)] := by kernel_rfl
@[go_sem] theorem eo104 : eqOffs Try.prog 104 = some [(0, false), (1, false), (2, false)] := by kernel_rfl
@[go_sem] theorem ok105 : okT Try.prog 105 = true := by kernel_rfl
@[go_sem] theorem sz105 : szOf Try.prog 105 = 1 := by kernel_rfl
@[go_sem] theorem by105 : bytesOf Try.prog 105 = 8 := by kernel_rfl
@[go_sem] theorem ag105 : aggT Try.prog 105 = false := by kernel_rfl
@[go_sem] theorem un105 : Program.underlying Try.prog 105 = some (.map 3 3) := by kernel_rfl
@[go_sem] theorem ke105 : keyT Try.prog 105 = some 3 := by kernel_rfl
@[go_sem] theorem zs105 : (zeroV Try.prog 105).isSome = true := by kernel_rfl
@[go_sem] theorem zc105 : azeroCells Try.prog 105 = [.nilm] := by kernel_rfl
@[go_sem] theorem zv105 : azero Try.prog 105 = .nilm := by kernel_rfl
@[go_sem] theorem ok107 : okT Try.prog 107 = true := by kernel_rfl
@[go_sem] theorem sz107 : szOf Try.prog 107 = 1 := by kernel_rfl
@[go_sem] theorem by107 : bytesOf Try.prog 107 = 8 := by kernel_rfl
@[go_sem] theorem ag107 : aggT Try.prog 107 = false := by kernel_rfl
@[go_sem] theorem zs107 : (zeroV Try.prog 107).isSome = true := by kernel_rfl
@[go_sem] theorem zc107 : azeroCells Try.prog 107 = [.any] := by kernel_rfl
@[go_sem] theorem zv107 : azero Try.prog 107 = .any := by kernel_rfl
@[go_sem] theorem ok109 : okT Try.prog 109 = true := by kernel_rfl
@[go_sem] theorem sz109 : szOf Try.prog 109 = 1 := by kernel_rfl
@[go_sem] theorem by109 : bytesOf Try.prog 109 = 8 := by kernel_rfl
@[go_sem] theorem ag109 : aggT Try.prog 109 = false := by kernel_rfl
@[go_sem] theorem un109 : Program.underlying Try.prog 109 = some (.int .u64) := by kernel_rfl
@[go_sem] theorem zs109 : (zeroV Try.prog 109).isSome = true := by kernel_rfl
@[go_sem] theorem zc109 : azeroCells Try.prog 109 = [.int .u64 0] := by kernel_rfl
@[go_sem] theorem zv109 : azero Try.prog 109 = .int .u64 0 := by kernel_rfl
@[go_sem] theorem ok112 : okT Try.prog 112 = true := by kernel_rfl
@[go_sem] theorem sz112 : szOf Try.prog 112 = 1 := by kernel_rfl
@[go_sem] theorem by112 : bytesOf Try.prog 112 = 8 := by kernel_rfl
@[go_sem] theorem ag112 : aggT Try.prog 112 = false := by kernel_rfl
@[go_sem] theorem un112 : Program.underlying Try.prog 112 = some (.int .u64) := by kernel_rfl
@[go_sem] theorem zs112 : (zeroV Try.prog 112).isSome = true := by kernel_rfl
@[go_sem] theorem zc112 : azeroCells Try.prog 112 = [.int .u64 0] := by kernel_rfl
@[go_sem] theorem zv112 : azero Try.prog 112 = .int .u64 0 := by kernel_rfl
@[go_sem] theorem ok114 : okT Try.prog 114 = true := by kernel_rfl
@[go_sem] theorem sz114 : szOf Try.prog 114 = 1 := by kernel_rfl
@[go_sem] theorem by114 : bytesOf Try.prog 114 = 8 := by kernel_rfl
@[go_sem] theorem ag114 : aggT Try.prog 114 = false := by kernel_rfl
@[go_sem] theorem zs114 : (zeroV Try.prog 114).isSome = true := by kernel_rfl
@[go_sem] theorem zc114 : azeroCells Try.prog 114 = [.any] := by kernel_rfl
@[go_sem] theorem zv114 : azero Try.prog 114 = .any := by kernel_rfl
@[go_sem] theorem ok116 : okT Try.prog 116 = true := by kernel_rfl
@[go_sem] theorem sz116 : szOf Try.prog 116 = 1 := by kernel_rfl
@[go_sem] theorem by116 : bytesOf Try.prog 116 = 8 := by kernel_rfl
@[go_sem] theorem ag116 : aggT Try.prog 116 = false := by kernel_rfl
@[go_sem] theorem un116 : Program.underlying Try.prog 116 = some (.int .i64) := by kernel_rfl
@[go_sem] theorem zs116 : (zeroV Try.prog 116).isSome = true := by kernel_rfl
@[go_sem] theorem zc116 : azeroCells Try.prog 116 = [.int .i64 0] := by kernel_rfl
@[go_sem] theorem zv116 : azero Try.prog 116 = .int .i64 0 := by kernel_rfl
@[go_sem] theorem ok124 : okT Try.prog 124 = true := by kernel_rfl
@[go_sem] theorem sz124 : szOf Try.prog 124 = 1 := by kernel_rfl
@[go_sem] theorem by124 : bytesOf Try.prog 124 = 4 := by kernel_rfl
@[go_sem] theorem ag124 : aggT Try.prog 124 = false := by kernel_rfl
@[go_sem] theorem un124 : Program.underlying Try.prog 124 = some (.int .u32) := by kernel_rfl
@[go_sem] theorem zs124 : (zeroV Try.prog 124).isSome = true := by kernel_rfl
@[go_sem] theorem zc124 : azeroCells Try.prog 124 = [.int .u32 0] := by kernel_rfl
@[go_sem] theorem zv124 : azero Try.prog 124 = .int .u32 0 := by kernel_rfl
@[go_sem] theorem ok126 : okT Try.prog 126 = true := by kernel_rfl
@[go_sem] theorem sz126 : szOf Try.prog 126 = 1 := by kernel_rfl
@[go_sem] theorem by126 : bytesOf Try.prog 126 = 8 := by kernel_rfl
@[go_sem] theorem ag126 : aggT Try.prog 126 = false := by kernel_rfl
@[go_sem] theorem un126 : Program.underlying Try.prog 126 = some (.int .u64) := by kernel_rfl
@[go_sem] theorem zs126 : (zeroV Try.prog 126).isSome = true := by kernel_rfl
@[go_sem] theorem zc126 : azeroCells Try.prog 126 = [.int .u64 0] := by kernel_rfl
@[go_sem] theorem zv126 : azero Try.prog 126 = .int .u64 0 := by kernel_rfl
@[go_sem] theorem ok130 : okT Try.prog 130 = true := by kernel_rfl
@[go_sem] theorem sz130 : szOf Try.prog 130 = 1 := by kernel_rfl
@[go_sem] theorem by130 : bytesOf Try.prog 130 = 8 := by kernel_rfl
@[go_sem] theorem ag130 : aggT Try.prog 130 = false := by kernel_rfl
@[go_sem] theorem zs130 : (zeroV Try.prog 130).isSome = true := by kernel_rfl
@[go_sem] theorem zc130 : azeroCells Try.prog 130 = [.any] := by kernel_rfl
@[go_sem] theorem zv130 : azero Try.prog 130 = .any := by kernel_rfl
@[go_sem] theorem ok133 : okT Try.prog 133 = true := by kernel_rfl
@[go_sem] theorem sz133 : szOf Try.prog 133 = 1 := by kernel_rfl
@[go_sem] theorem by133 : bytesOf Try.prog 133 = 8 := by kernel_rfl
@[go_sem] theorem ag133 : aggT Try.prog 133 = false := by kernel_rfl
@[go_sem] theorem zs133 : (zeroV Try.prog 133).isSome = true := by kernel_rfl
@[go_sem] theorem zc133 : azeroCells Try.prog 133 = [.any] := by kernel_rfl
@[go_sem] theorem zv133 : azero Try.prog 133 = .any := by kernel_rfl
end Go.Proofs.Ytmfjcimogpmheaa
