/-
  Facts on the types of the seat's program, printed by a small program of our own (wip/TypesGen.lean.txt).
-/
import Derived.Test.YtooopbnnhbacjaaChecked
import Derived.Test.YtooopbnnhbacjaaSkC
import Derived.Test.YtooopbnnhbacjaaSkZF
import Derived.KernelRfl
namespace Go.Proofs.Ytooopbnnhbacjaa
open Go Go.Ab
theorem Try.mixed : Try.prog.follows .mixedOrders = true := by kernel_rfl
@[go_sem] theorem ok3 : okT Try.prog 3 = true := by kernel_rfl
@[go_sem] theorem sz3 : szOf Try.prog 3 = 1 := by kernel_rfl
@[go_sem] theorem by3 : bytesOf Try.prog 3 = 8 := by kernel_rfl
@[go_sem] theorem ag3 : aggT Try.prog 3 = false := by kernel_rfl
@[go_sem] theorem un3 : Program.underlying Try.prog 3 = some (.int .i64) := by kernel_rfl
@[go_sem] theorem zs3 : (zeroV Try.prog 3).isSome = true := by kernel_rfl
@[go_sem] theorem zc3 : azeroCells Try.prog 3 = [.int .i64 0] := by kernel_rfl
@[go_sem] theorem zv3 : azero Try.prog 3 = .int .i64 0 := by kernel_rfl
@[go_sem] theorem ok4 : okT Try.prog 4 = true := by kernel_rfl
@[go_sem] theorem sz4 : szOf Try.prog 4 = 1 := by kernel_rfl
@[go_sem] theorem by4 : bytesOf Try.prog 4 = 1 := by kernel_rfl
@[go_sem] theorem ag4 : aggT Try.prog 4 = false := by kernel_rfl
@[go_sem] theorem un4 : Program.underlying Try.prog 4 = some (.bool) := by kernel_rfl
@[go_sem] theorem zs4 : (zeroV Try.prog 4).isSome = true := by kernel_rfl
@[go_sem] theorem zc4 : azeroCells Try.prog 4 = [.bool false] := by kernel_rfl
@[go_sem] theorem zv4 : azero Try.prog 4 = .bool false := by kernel_rfl
@[go_sem] theorem ok5 : okT Try.prog 5 = true := by kernel_rfl
@[go_sem] theorem sz5 : szOf Try.prog 5 = 1 := by kernel_rfl
@[go_sem] theorem by5 : bytesOf Try.prog 5 = 1 := by kernel_rfl
@[go_sem] theorem ag5 : aggT Try.prog 5 = false := by kernel_rfl
@[go_sem] theorem un5 : Program.underlying Try.prog 5 = some (.int .u8) := by kernel_rfl
@[go_sem] theorem zs5 : (zeroV Try.prog 5).isSome = true := by kernel_rfl
@[go_sem] theorem zc5 : azeroCells Try.prog 5 = [.int .u8 0] := by kernel_rfl
@[go_sem] theorem zv5 : azero Try.prog 5 = .int .u8 0 := by kernel_rfl
@[go_sem] theorem ok9 : okT Try.prog 9 = true := by kernel_rfl
@[go_sem] theorem sz9 : szOf Try.prog 9 = 1 := by kernel_rfl
@[go_sem] theorem by9 : bytesOf Try.prog 9 = 16 := by kernel_rfl
@[go_sem] theorem ag9 : aggT Try.prog 9 = false := by kernel_rfl
@[go_sem] theorem un9 : Program.underlying Try.prog 9 = some (.string) := by kernel_rfl
@[go_sem] theorem zs9 : (zeroV Try.prog 9).isSome = true := by kernel_rfl
@[go_sem] theorem zc9 : azeroCells Try.prog 9 = [.str ByteArray.empty] := by kernel_rfl
@[go_sem] theorem zv9 : azero Try.prog 9 = .str ByteArray.empty := by kernel_rfl
@[go_sem] theorem ok22 : okT Try.prog 22 = true := by kernel_rfl
@[go_sem] theorem sz22 : szOf Try.prog 22 = 1 := by kernel_rfl
@[go_sem] theorem by22 : bytesOf Try.prog 22 = 24 := by kernel_rfl
@[go_sem] theorem ag22 : aggT Try.prog 22 = false := by kernel_rfl
@[go_sem] theorem un22 : Program.underlying Try.prog 22 = some (.slice 52) := by kernel_rfl
@[go_sem] theorem el22 : elemT Try.prog 22 = some 52 := by kernel_rfl
@[go_sem] theorem zs22 : (zeroV Try.prog 22).isSome = true := by kernel_rfl
@[go_sem] theorem zc22 : azeroCells Try.prog 22 = [.nils] := by kernel_rfl
@[go_sem] theorem zv22 : azero Try.prog 22 = .nils := by kernel_rfl
@[go_sem] theorem ok23 : okT Try.prog 23 = true := by kernel_rfl
@[go_sem] theorem sz23 : szOf Try.prog 23 = 1 := by kernel_rfl
@[go_sem] theorem by23 : bytesOf Try.prog 23 = 24 := by kernel_rfl
@[go_sem] theorem ag23 : aggT Try.prog 23 = false := by kernel_rfl
@[go_sem] theorem un23 : Program.underlying Try.prog 23 = some (.slice 71) := by kernel_rfl
@[go_sem] theorem el23 : elemT Try.prog 23 = some 71 := by kernel_rfl
@[go_sem] theorem zs23 : (zeroV Try.prog 23).isSome = true := by kernel_rfl
@[go_sem] theorem zc23 : azeroCells Try.prog 23 = [.nils] := by kernel_rfl
@[go_sem] theorem zv23 : azero Try.prog 23 = .nils := by kernel_rfl
@[go_sem] theorem ok24 : okT Try.prog 24 = true := by kernel_rfl
@[go_sem] theorem sz24 : szOf Try.prog 24 = 1 := by kernel_rfl
@[go_sem] theorem by24 : bytesOf Try.prog 24 = 24 := by kernel_rfl
@[go_sem] theorem ag24 : aggT Try.prog 24 = false := by kernel_rfl
@[go_sem] theorem un24 : Program.underlying Try.prog 24 = some (.slice 37) := by kernel_rfl
@[go_sem] theorem el24 : elemT Try.prog 24 = some 37 := by kernel_rfl
@[go_sem] theorem zs24 : (zeroV Try.prog 24).isSome = true := by kernel_rfl
@[go_sem] theorem zc24 : azeroCells Try.prog 24 = [.nils] := by kernel_rfl
@[go_sem] theorem zv24 : azero Try.prog 24 = .nils := by kernel_rfl
@[go_sem] theorem ok25 : okT Try.prog 25 = true := by kernel_rfl
@[go_sem] theorem sz25 : szOf Try.prog 25 = 1 := by kernel_rfl
@[go_sem] theorem by25 : bytesOf Try.prog 25 = 24 := by kernel_rfl
@[go_sem] theorem ag25 : aggT Try.prog 25 = false := by kernel_rfl
@[go_sem] theorem un25 : Program.underlying Try.prog 25 = some (.slice 3) := by kernel_rfl
@[go_sem] theorem el25 : elemT Try.prog 25 = some 3 := by kernel_rfl
@[go_sem] theorem zs25 : (zeroV Try.prog 25).isSome = true := by kernel_rfl
@[go_sem] theorem zc25 : azeroCells Try.prog 25 = [.nils] := by kernel_rfl
@[go_sem] theorem zv25 : azero Try.prog 25 = .nils := by kernel_rfl
@[go_sem] theorem ok27 : okT Try.prog 27 = true := by kernel_rfl
@[go_sem] theorem sz27 : szOf Try.prog 27 = 4 := by kernel_rfl
@[go_sem] theorem by27 : bytesOf Try.prog 27 = 96 := by kernel_rfl
@[go_sem] theorem ag27 : aggT Try.prog 27 = true := by kernel_rfl
@[go_sem] theorem zs27 : (zeroV Try.prog 27).isSome = true := by kernel_rfl
@[go_sem] theorem zc27 : azeroCells Try.prog 27 = [.nils, .nils, .nils, .nils] := by kernel_rfl
@[go_sem] theorem zv27 : azero Try.prog 27 = .agg [.nils, .nils, .nils, .nils] := by kernel_rfl
@[go_sem] theorem fi27x0 : fieldT Try.prog 27 0 = some (0, 1) := by kernel_rfl
@[go_sem] theorem fi27x1 : fieldT Try.prog 27 1 = some (1, 1) := by kernel_rfl
@[go_sem] theorem fi27x2 : fieldT Try.prog 27 2 = some (2, 1) := by kernel_rfl
@[go_sem] theorem fi27x3 : fieldT Try.prog 27 3 = some (3, 1) := by kernel_rfl
@[go_sem] theorem pl27 : placesOf Try.prog 27 = some [(0, 1), (1, 1), (2, 1), (3, 1)] := by kernel_rfl
@[go_sem] theorem ok29 : okT Try.prog 29 = true := by kernel_rfl
@[go_sem] theorem sz29 : szOf Try.prog 29 = 1 := by kernel_rfl
@[go_sem] theorem by29 : bytesOf Try.prog 29 = 8 := by kernel_rfl
@[go_sem] theorem ag29 : aggT Try.prog 29 = false := by kernel_rfl
@[go_sem] theorem un29 : Program.underlying Try.prog 29 = some (.int .i64) := by kernel_rfl
@[go_sem] theorem zs29 : (zeroV Try.prog 29).isSome = true := by kernel_rfl
@[go_sem] theorem zc29 : azeroCells Try.prog 29 = [.int .i64 0] := by kernel_rfl
@[go_sem] theorem zv29 : azero Try.prog 29 = .int .i64 0 := by kernel_rfl
@[go_sem] theorem ok31 : okT Try.prog 31 = true := by kernel_rfl
@[go_sem] theorem sz31 : szOf Try.prog 31 = 1 := by kernel_rfl
@[go_sem] theorem by31 : bytesOf Try.prog 31 = 24 := by kernel_rfl
@[go_sem] theorem ag31 : aggT Try.prog 31 = false := by kernel_rfl
@[go_sem] theorem un31 : Program.underlying Try.prog 31 = some (.slice 46) := by kernel_rfl
@[go_sem] theorem el31 : elemT Try.prog 31 = some 46 := by kernel_rfl
@[go_sem] theorem zs31 : (zeroV Try.prog 31).isSome = true := by kernel_rfl
@[go_sem] theorem zc31 : azeroCells Try.prog 31 = [.nils] := by kernel_rfl
@[go_sem] theorem zv31 : azero Try.prog 31 = .nils := by kernel_rfl
@[go_sem] theorem ok33 : okT Try.prog 33 = true := by kernel_rfl
@[go_sem] theorem sz33 : szOf Try.prog 33 = 3 := by kernel_rfl
@[go_sem] theorem by33 : bytesOf Try.prog 33 = 56 := by kernel_rfl
@[go_sem] theorem ag33 : aggT Try.prog 33 = true := by kernel_rfl
@[go_sem] theorem zs33 : (zeroV Try.prog 33).isSome = true := by kernel_rfl
@[go_sem] theorem zc33 : azeroCells Try.prog 33 = [.nils, .nils, .int .i64 0] := by kernel_rfl
@[go_sem] theorem zv33 : azero Try.prog 33 = .agg [.nils, .nils, .int .i64 0] := by kernel_rfl
@[go_sem] theorem fi33x0 : fieldT Try.prog 33 0 = some (0, 1) := by kernel_rfl
@[go_sem] theorem fi33x1 : fieldT Try.prog 33 1 = some (1, 1) := by kernel_rfl
@[go_sem] theorem fi33x2 : fieldT Try.prog 33 2 = some (2, 1) := by kernel_rfl
@[go_sem] theorem pl33 : placesOf Try.prog 33 = some [(0, 1), (1, 1), (2, 1)] := by kernel_rfl
@[go_sem] theorem ok37 : okT Try.prog 37 = true := by kernel_rfl
@[go_sem] theorem sz37 : szOf Try.prog 37 = 7 := by kernel_rfl
@[go_sem] theorem by37 : bytesOf Try.prog 37 = 56 := by kernel_rfl
@[go_sem] theorem ag37 : aggT Try.prog 37 = true := by kernel_rfl
@[go_sem] theorem zs37 : (zeroV Try.prog 37).isSome = true := by kernel_rfl
@[go_sem] theorem zc37 : azeroCells Try.prog 37 = [.int .i64 0, .int .i64 0, .int .i64 0, .int .i64 0, .int .i64 0, .int .i64 0, .int .i64 0] := by kernel_rfl
@[go_sem] theorem zv37 : azero Try.prog 37 = .agg [.int .i64 0, .int .i64 0, .int .i64 0, .int .i64 0, .int .i64 0, .int .i64 0, .int .i64 0] := by kernel_rfl
@[go_sem] theorem fi37x0 : fieldT Try.prog 37 0 = some (0, 1) := by kernel_rfl
@[go_sem] theorem fi37x1 : fieldT Try.prog 37 1 = some (1, 1) := by kernel_rfl
@[go_sem] theorem fi37x2 : fieldT Try.prog 37 2 = some (2, 1) := by kernel_rfl
@[go_sem] theorem fi37x3 : fieldT Try.prog 37 3 = some (3, 1) := by kernel_rfl
@[go_sem] theorem fi37x4 : fieldT Try.prog 37 4 = some (4, 1) := by kernel_rfl
@[go_sem] theorem fi37x5 : fieldT Try.prog 37 5 = some (5, 1) := by kernel_rfl
@[go_sem] theorem fi37x6 : fieldT Try.prog 37 6 = some (6, 1) := by kernel_rfl
@[go_sem] theorem pl37 : placesOf Try.prog 37 = some [(0, 1), (1, 1), (2, 1), (3, 1), (4, 1), (5, 1), (6, 1)] := by kernel_rfl
@[go_sem] theorem eo37 : eqOffs Try.prog 37 = some [(0, false), (1, false), (2, false), (3, false), (4, false), (5, false), (6, false)] := by kernel_rfl
@[go_sem] theorem ok46 : okT Try.prog 46 = true := by kernel_rfl
@[go_sem] theorem sz46 : szOf Try.prog 46 = 4 := by kernel_rfl
@[go_sem] theorem by46 : bytesOf Try.prog 46 = 32 := by kernel_rfl
@[go_sem] theorem ag46 : aggT Try.prog 46 = true := by kernel_rfl
@[go_sem] theorem zs46 : (zeroV Try.prog 46).isSome = true := by kernel_rfl
@[go_sem] theorem zc46 : azeroCells Try.prog 46 = [.int .i64 0, .int .i64 0, .int .i64 0, .int .i64 0] := by kernel_rfl
@[go_sem] theorem zv46 : azero Try.prog 46 = .agg [.int .i64 0, .int .i64 0, .int .i64 0, .int .i64 0] := by kernel_rfl
@[go_sem] theorem fi46x0 : fieldT Try.prog 46 0 = some (0, 1) := by kernel_rfl
@[go_sem] theorem fi46x1 : fieldT Try.prog 46 1 = some (1, 1) := by kernel_rfl
@[go_sem] theorem fi46x2 : fieldT Try.prog 46 2 = some (2, 1) := by kernel_rfl
@[go_sem] theorem fi46x3 : fieldT Try.prog 46 3 = some (3, 1) := by kernel_rfl
@[go_sem] theorem pl46 : placesOf Try.prog 46 = some [(0, 1), (1, 1), (2, 1), (3, 1)] := by kernel_rfl
@[go_sem] theorem eo46 : eqOffs Try.prog 46 = some [(0, false), (1, false), (2, false), (3, false)] := by kernel_rfl
@[go_sem] theorem ok52 : okT Try.prog 52 = true := by kernel_rfl
@[go_sem] theorem sz52 : szOf Try.prog 52 = 2 := by kernel_rfl
@[go_sem] theorem by52 : bytesOf Try.prog 52 = 16 := by kernel_rfl
@[go_sem] theorem ag52 : aggT Try.prog 52 = true := by kernel_rfl
@[go_sem] theorem zs52 : (zeroV Try.prog 52).isSome = true := by kernel_rfl
@[go_sem] theorem zc52 : azeroCells Try.prog 52 = [.int .i64 0, .int .i64 0] := by kernel_rfl
@[go_sem] theorem zv52 : azero Try.prog 52 = .agg [.int .i64 0, .int .i64 0] := by kernel_rfl
@[go_sem] theorem fi52x0 : fieldT Try.prog 52 0 = some (0, 1) := by kernel_rfl
@[go_sem] theorem fi52x1 : fieldT Try.prog 52 1 = some (1, 1) := by kernel_rfl
@[go_sem] theorem pl52 : placesOf Try.prog 52 = some [(0, 1), (1, 1)] := by kernel_rfl
@[go_sem] theorem eo52 : eqOffs Try.prog 52 = some [(0, false), (1, false)] := by kernel_rfl
@[go_sem] theorem ok60 : okT Try.prog 60 = true := by kernel_rfl
@[go_sem] theorem sz60 : szOf Try.prog 60 = 1 := by kernel_rfl
@[go_sem] theorem by60 : bytesOf Try.prog 60 = 24 := by kernel_rfl
@[go_sem] theorem ag60 : aggT Try.prog 60 = false := by kernel_rfl
@[go_sem] theorem un60 : Program.underlying Try.prog 60 = some (.slice 81) := by kernel_rfl
@[go_sem] theorem el60 : elemT Try.prog 60 = some 81 := by kernel_rfl
@[go_sem] theorem zs60 : (zeroV Try.prog 60).isSome = true := by kernel_rfl
@[go_sem] theorem zc60 : azeroCells Try.prog 60 = [.nils] := by kernel_rfl
@[go_sem] theorem zv60 : azero Try.prog 60 = .nils := by kernel_rfl
@[go_sem] theorem ok71 : okT Try.prog 71 = true := by kernel_rfl
@[go_sem] theorem sz71 : szOf Try.prog 71 = 8 := by kernel_rfl
@[go_sem] theorem by71 : bytesOf Try.prog 71 = 64 := by kernel_rfl
@[go_sem] theorem ag71 : aggT Try.prog 71 = true := by kernel_rfl
@[go_sem] theorem zs71 : (zeroV Try.prog 71).isSome = true := by kernel_rfl
@[go_sem] theorem zc71 : azeroCells Try.prog 71 = [.int .i64 0, .int .i64 0, .int .i64 0, .int .i64 0, .int .i64 0, .int .i64 0, .int .i64 0, .int .i64 0] := by kernel_rfl
@[go_sem] theorem zv71 : azero Try.prog 71 = .agg [.int .i64 0, .int .i64 0, .int .i64 0, .int .i64 0, .int .i64 0, .int .i64 0, .int .i64 0, .int .i64 0] := by kernel_rfl
@[go_sem] theorem fi71x0 : fieldT Try.prog 71 0 = some (0, 1) := by kernel_rfl
@[go_sem] theorem fi71x1 : fieldT Try.prog 71 1 = some (1, 1) := by kernel_rfl
@[go_sem] theorem fi71x2 : fieldT Try.prog 71 2 = some (2, 1) := by kernel_rfl
@[go_sem] theorem fi71x3 : fieldT Try.prog 71 3 = some (3, 1) := by kernel_rfl
@[go_sem] theorem fi71x4 : fieldT Try.prog 71 4 = some (4, 1) := by kernel_rfl
@[go_sem] theorem fi71x5 : fieldT Try.prog 71 5 = some (5, 1) := by kernel_rfl
@[go_sem] theorem fi71x6 : fieldT Try.prog 71 6 = some (6, 1) := by kernel_rfl
@[go_sem] theorem fi71x7 : fieldT Try.prog 71 7 = some (7, 1) := by kernel_rfl
@[go_sem] theorem pl71 : placesOf Try.prog 71 = some [(0, 1), (1, 1), (2, 1), (3, 1), (4, 1), (5, 1), (6, 1), (7, 1)] := by kernel_rfl
@[go_sem] theorem eo71 : eqOffs Try.prog 71 = some [(0, false), (1, false), (2, false), (3, false), (4, false), (5, false), (6, false), (7, false)] := by kernel_rfl
@[go_sem] theorem ok81 : okT Try.prog 81 = true := by kernel_rfl
@[go_sem] theorem sz81 : szOf Try.prog 81 = 4 := by kernel_rfl
@[go_sem] theorem by81 : bytesOf Try.prog 81 = 32 := by kernel_rfl
@[go_sem] theorem ag81 : aggT Try.prog 81 = true := by kernel_rfl
@[go_sem] theorem zs81 : (zeroV Try.prog 81).isSome = true := by kernel_rfl
@[go_sem] theorem zc81 : azeroCells Try.prog 81 = [.int .i64 0, .int .i64 0, .int .i64 0, .int .i64 0] := by kernel_rfl
@[go_sem] theorem zv81 : azero Try.prog 81 = .agg [.int .i64 0, .int .i64 0, .int .i64 0, .int .i64 0] := by kernel_rfl
@[go_sem] theorem fi81x0 : fieldT Try.prog 81 0 = some (0, 1) := by kernel_rfl
@[go_sem] theorem fi81x1 : fieldT Try.prog 81 1 = some (1, 1) := by kernel_rfl
@[go_sem] theorem fi81x2 : fieldT Try.prog 81 2 = some (2, 1) := by kernel_rfl
@[go_sem] theorem fi81x3 : fieldT Try.prog 81 3 = some (3, 1) := by kernel_rfl
@[go_sem] theorem pl81 : placesOf Try.prog 81 = some [(0, 1), (1, 1), (2, 1), (3, 1)] := by kernel_rfl
@[go_sem] theorem eo81 : eqOffs Try.prog 81 = some [(0, false), (1, false), (2, false), (3, false)] := by kernel_rfl
@[go_sem] theorem ok82 : okT Try.prog 82 = true := by kernel_rfl
@[go_sem] theorem sz82 : szOf Try.prog 82 = 1 := by kernel_rfl
@[go_sem] theorem by82 : bytesOf Try.prog 82 = 24 := by kernel_rfl
@[go_sem] theorem ag82 : aggT Try.prog 82 = false := by kernel_rfl
@[go_sem] theorem un82 : Program.underlying Try.prog 82 = some (.slice 60) := by kernel_rfl
@[go_sem] theorem el82 : elemT Try.prog 82 = some 60 := by kernel_rfl
@[go_sem] theorem zs82 : (zeroV Try.prog 82).isSome = true := by kernel_rfl
@[go_sem] theorem zc82 : azeroCells Try.prog 82 = [.nils] := by kernel_rfl
@[go_sem] theorem zv82 : azero Try.prog 82 = .nils := by kernel_rfl
@[go_sem] theorem ok85 : okT Try.prog 85 = true := by kernel_rfl
@[go_sem] theorem sz85 : szOf Try.prog 85 = 1 := by kernel_rfl
@[go_sem] theorem by85 : bytesOf Try.prog 85 = 8 := by kernel_rfl
@[go_sem] theorem ag85 : aggT Try.prog 85 = false := by kernel_rfl
@[go_sem] theorem un85 : Program.underlying Try.prog 85 = some (.map 3 25) := by kernel_rfl
@[go_sem] theorem ke85 : keyT Try.prog 85 = some 25 := by kernel_rfl
@[go_sem] theorem zs85 : (zeroV Try.prog 85).isSome = true := by kernel_rfl
@[go_sem] theorem zc85 : azeroCells Try.prog 85 = [.nilm] := by kernel_rfl
@[go_sem] theorem zv85 : azero Try.prog 85 = .nilm := by kernel_rfl
@[go_sem] theorem ok86 : okT Try.prog 86 = true := by kernel_rfl
@[go_sem] theorem sz86 : szOf Try.prog 86 = 1 := by kernel_rfl
@[go_sem] theorem by86 : bytesOf Try.prog 86 = 8 := by kernel_rfl
@[go_sem] theorem ag86 : aggT Try.prog 86 = false := by kernel_rfl
@[go_sem] theorem un86 : Program.underlying Try.prog 86 = some (.map 3 4) := by kernel_rfl
@[go_sem] theorem ke86 : keyT Try.prog 86 = some 4 := by kernel_rfl
@[go_sem] theorem zs86 : (zeroV Try.prog 86).isSome = true := by kernel_rfl
@[go_sem] theorem zc86 : azeroCells Try.prog 86 = [.nilm] := by kernel_rfl
@[go_sem] theorem zv86 : azero Try.prog 86 = .nilm := by kernel_rfl
@[go_sem] theorem ok89 : okT Try.prog 89 = true := by kernel_rfl
@[go_sem] theorem sz89 : szOf Try.prog 89 = 1 := by kernel_rfl
@[go_sem] theorem by89 : bytesOf Try.prog 89 = 8 := by kernel_rfl
@[go_sem] theorem ag89 : aggT Try.prog 89 = false := by kernel_rfl
@[go_sem] theorem zs89 : (zeroV Try.prog 89).isSome = true := by kernel_rfl
@[go_sem] theorem zc89 : azeroCells Try.prog 89 = [.any] := by kernel_rfl
@[go_sem] theorem zv89 : azero Try.prog 89 = .any := by kernel_rfl
@[go_sem] theorem ok92 : okT Try.prog 92 = true := by kernel_rfl
@[go_sem] theorem sz92 : szOf Try.prog 92 = 1 := by kernel_rfl
@[go_sem] theorem by92 : bytesOf Try.prog 92 = 8 := by kernel_rfl
@[go_sem] theorem ag92 : aggT Try.prog 92 = false := by kernel_rfl
@[go_sem] theorem zs92 : (zeroV Try.prog 92).isSome = true := by kernel_rfl
@[go_sem] theorem zc92 : azeroCells Try.prog 92 = [.any] := by kernel_rfl
@[go_sem] theorem zv92 : azero Try.prog 92 = .any := by kernel_rfl
@[go_sem] theorem ok97 : okT Try.prog 97 = true := by kernel_rfl
@[go_sem] theorem sz97 : szOf Try.prog 97 = 1 := by kernel_rfl
@[go_sem] theorem by97 : bytesOf Try.prog 97 = 8 := by kernel_rfl
@[go_sem] theorem ag97 : aggT Try.prog 97 = false := by kernel_rfl
@[go_sem] theorem un97 : Program.underlying Try.prog 97 = some (.int .u64) := by kernel_rfl
@[go_sem] theorem zs97 : (zeroV Try.prog 97).isSome = true := by kernel_rfl
@[go_sem] theorem zc97 : azeroCells Try.prog 97 = [.int .u64 0] := by kernel_rfl
@[go_sem] theorem zv97 : azero Try.prog 97 = .int .u64 0 := by kernel_rfl
@[go_sem] theorem ok99 : okT Try.prog 99 = true := by kernel_rfl
@[go_sem] theorem sz99 : szOf Try.prog 99 = 1 := by kernel_rfl
@[go_sem] theorem by99 : bytesOf Try.prog 99 = 8 := by kernel_rfl
@[go_sem] theorem ag99 : aggT Try.prog 99 = false := by kernel_rfl
@[go_sem] theorem un99 : Program.underlying Try.prog 99 = some (.int .i64) := by kernel_rfl
@[go_sem] theorem zs99 : (zeroV Try.prog 99).isSome = true := by kernel_rfl
@[go_sem] theorem zc99 : azeroCells Try.prog 99 = [.int .i64 0] := by kernel_rfl
@[go_sem] theorem zv99 : azero Try.prog 99 = .int .i64 0 := by kernel_rfl
@[go_sem] theorem ok108 : okT Try.prog 108 = true := by kernel_rfl
@[go_sem] theorem sz108 : szOf Try.prog 108 = 1 := by kernel_rfl
@[go_sem] theorem by108 : bytesOf Try.prog 108 = 4 := by kernel_rfl
@[go_sem] theorem ag108 : aggT Try.prog 108 = false := by kernel_rfl
@[go_sem] theorem un108 : Program.underlying Try.prog 108 = some (.int .u32) := by kernel_rfl
@[go_sem] theorem zs108 : (zeroV Try.prog 108).isSome = true := by kernel_rfl
@[go_sem] theorem zc108 : azeroCells Try.prog 108 = [.int .u32 0] := by kernel_rfl
@[go_sem] theorem zv108 : azero Try.prog 108 = .int .u32 0 := by kernel_rfl
@[go_sem] theorem ok110 : okT Try.prog 110 = true := by kernel_rfl
@[go_sem] theorem sz110 : szOf Try.prog 110 = 1 := by kernel_rfl
@[go_sem] theorem by110 : bytesOf Try.prog 110 = 8 := by kernel_rfl
@[go_sem] theorem ag110 : aggT Try.prog 110 = false := by kernel_rfl
@[go_sem] theorem un110 : Program.underlying Try.prog 110 = some (.int .u64) := by kernel_rfl
@[go_sem] theorem zs110 : (zeroV Try.prog 110).isSome = true := by kernel_rfl
@[go_sem] theorem zc110 : azeroCells Try.prog 110 = [.int .u64 0] := by kernel_rfl
@[go_sem] theorem zv110 : azero Try.prog 110 = .int .u64 0 := by kernel_rfl
@[go_sem] theorem ok111 : okT Try.prog 111 = true := by kernel_rfl
@[go_sem] theorem sz111 : szOf Try.prog 111 = 1 := by kernel_rfl
@[go_sem] theorem by111 : bytesOf Try.prog 111 = 8 := by kernel_rfl
@[go_sem] theorem ag111 : aggT Try.prog 111 = false := by kernel_rfl
@[go_sem] theorem un111 : Program.underlying Try.prog 111 = some (.int .u64) := by kernel_rfl
@[go_sem] theorem zs111 : (zeroV Try.prog 111).isSome = true := by kernel_rfl
@[go_sem] theorem zc111 : azeroCells Try.prog 111 = [.int .u64 0] := by kernel_rfl
@[go_sem] theorem zv111 : azero Try.prog 111 = .int .u64 0 := by kernel_rfl
@[go_sem] theorem ok115 : okT Try.prog 115 = true := by kernel_rfl
@[go_sem] theorem sz115 : szOf Try.prog 115 = 1 := by kernel_rfl
@[go_sem] theorem by115 : bytesOf Try.prog 115 = 8 := by kernel_rfl
@[go_sem] theorem ag115 : aggT Try.prog 115 = false := by kernel_rfl
@[go_sem] theorem zs115 : (zeroV Try.prog 115).isSome = true := by kernel_rfl
@[go_sem] theorem zc115 : azeroCells Try.prog 115 = [.any] := by kernel_rfl
@[go_sem] theorem zv115 : azero Try.prog 115 = .any := by kernel_rfl
@[go_sem] theorem ok117 : okT Try.prog 117 = true := by kernel_rfl
@[go_sem] theorem sz117 : szOf Try.prog 117 = 1 := by kernel_rfl
@[go_sem] theorem by117 : bytesOf Try.prog 117 = 8 := by kernel_rfl
@[go_sem] theorem ag117 : aggT Try.prog 117 = false := by kernel_rfl
@[go_sem] theorem zs117 : (zeroV Try.prog 117).isSome = true := by kernel_rfl
@[go_sem] theorem zc117 : azeroCells Try.prog 117 = [.any] := by kernel_rfl
@[go_sem] theorem zv117 : azero Try.prog 117 = .any := by kernel_rfl
end Go.Proofs.Ytooopbnnhbacjaa
