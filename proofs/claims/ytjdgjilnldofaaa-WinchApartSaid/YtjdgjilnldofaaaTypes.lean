/-
  Facts on the types of the seat's program, printed by a small program of our own (wip/TypesGen.lean.txt).
-/
import Derived.Test.YtjdgjilnldofaaaChecked
import Derived.Test.YtjdgjilnldofaaaSkC
import Derived.Test.YtjdgjilnldofaaaSkH
import Derived.KernelRfl
namespace Go.Proofs.Ytjdgjilnldofaaa
open Go Go.Ab
theorem Try.mixed : Try.prog.follows .mixedOrders = true := by kernel_rfl
@[go_sem] theorem ok3 : okT Try.prog 3 = true := by kernel_rfl
@[go_sem] theorem sz3 : szOf Try.prog 3 = 1 := by kernel_rfl
@[go_sem] theorem by3 : bytesOf Try.prog 3 = 8 := by kernel_rfl
@[go_sem] theorem ag3 : aggT Try.prog 3 = false := by kernel_rfl
@[go_sem] theorem un3 : Program.underlying Try.prog 3 = some (.int .i64) := by kernel_rfl
@[go_sem] theorem zs3 : (zeroV Try.prog 3).isSome = true := by kernel_rfl
@[go_sem] theorem zc3 : azeroCells Try.prog 3 = [.int .i64 0] := by kernel_rfl
@[go_sem] theorem zv3 : azero Try.prog 3 = .int .i64 0 := by kernel_rfl
@[go_sem] theorem ok4 : okT Try.prog 4 = true := by kernel_rfl
@[go_sem] theorem sz4 : szOf Try.prog 4 = 1 := by kernel_rfl
@[go_sem] theorem by4 : bytesOf Try.prog 4 = 1 := by kernel_rfl
@[go_sem] theorem ag4 : aggT Try.prog 4 = false := by kernel_rfl
@[go_sem] theorem un4 : Program.underlying Try.prog 4 = some (.bool) := by kernel_rfl
@[go_sem] theorem zs4 : (zeroV Try.prog 4).isSome = true := by kernel_rfl
@[go_sem] theorem zc4 : azeroCells Try.prog 4 = [.bool false] := by kernel_rfl
@[go_sem] theorem zv4 : azero Try.prog 4 = .bool false := by kernel_rfl
@[go_sem] theorem ok5 : okT Try.prog 5 = true := by kernel_rfl
@[go_sem] theorem sz5 : szOf Try.prog 5 = 1 := by kernel_rfl
@[go_sem] theorem by5 : bytesOf Try.prog 5 = 1 := by kernel_rfl
@[go_sem] theorem ag5 : aggT Try.prog 5 = false := by kernel_rfl
@[go_sem] theorem un5 : Program.underlying Try.prog 5 = some (.int .u8) := by kernel_rfl
@[go_sem] theorem zs5 : (zeroV Try.prog 5).isSome = true := by kernel_rfl
@[go_sem] theorem zc5 : azeroCells Try.prog 5 = [.int .u8 0] := by kernel_rfl
@[go_sem] theorem zv5 : azero Try.prog 5 = .int .u8 0 := by kernel_rfl
@[go_sem] theorem ok9 : okT Try.prog 9 = true := by kernel_rfl
@[go_sem] theorem sz9 : szOf Try.prog 9 = 1 := by kernel_rfl
@[go_sem] theorem by9 : bytesOf Try.prog 9 = 16 := by kernel_rfl
@[go_sem] theorem ag9 : aggT Try.prog 9 = false := by kernel_rfl
@[go_sem] theorem un9 : Program.underlying Try.prog 9 = some (.string) := by kernel_rfl
@[go_sem] theorem zs9 : (zeroV Try.prog 9).isSome = true := by kernel_rfl
@[go_sem] theorem zc9 : azeroCells Try.prog 9 = [.str ByteArray.empty] := by kernel_rfl
@[go_sem] theorem zv9 : azero Try.prog 9 = .str ByteArray.empty := by kernel_rfl
@[go_sem] theorem ok22 : okT Try.prog 22 = true := by kernel_rfl
@[go_sem] theorem sz22 : szOf Try.prog 22 = 1 := by kernel_rfl
@[go_sem] theorem by22 : bytesOf Try.prog 22 = 24 := by kernel_rfl
@[go_sem] theorem ag22 : aggT Try.prog 22 = false := by kernel_rfl
@[go_sem] theorem un22 : Program.underlying Try.prog 22 = some (.slice 29) := by kernel_rfl
@[go_sem] theorem el22 : elemT Try.prog 22 = some 29 := by kernel_rfl
@[go_sem] theorem zs22 : (zeroV Try.prog 22).isSome = true := by kernel_rfl
@[go_sem] theorem zc22 : azeroCells Try.prog 22 = [.nils] := by kernel_rfl
@[go_sem] theorem zv22 : azero Try.prog 22 = .nils := by kernel_rfl
@[go_sem] theorem ok25 : okT Try.prog 25 = true := by kernel_rfl
@[go_sem] theorem sz25 : szOf Try.prog 25 = 1 := by kernel_rfl
@[go_sem] theorem by25 : bytesOf Try.prog 25 = 8 := by kernel_rfl
@[go_sem] theorem ag25 : aggT Try.prog 25 = false := by kernel_rfl
@[go_sem] theorem un25 : Program.underlying Try.prog 25 = some (.int .i64) := by kernel_rfl
@[go_sem] theorem zs25 : (zeroV Try.prog 25).isSome = true := by kernel_rfl
@[go_sem] theorem zc25 : azeroCells Try.prog 25 = [.int .i64 0] := by kernel_rfl
@[go_sem] theorem zv25 : azero Try.prog 25 = .int .i64 0 := by kernel_rfl
@[go_sem] theorem ok27 : okT Try.prog 27 = true := by kernel_rfl
@[go_sem] theorem sz27 : szOf Try.prog 27 = 1 := by kernel_rfl
@[go_sem] theorem by27 : bytesOf Try.prog 27 = 24 := by kernel_rfl
@[go_sem] theorem ag27 : aggT Try.prog 27 = false := by kernel_rfl
@[go_sem] theorem un27 : Program.underlying Try.prog 27 = some (.slice 3) := by kernel_rfl
@[go_sem] theorem el27 : elemT Try.prog 27 = some 3 := by kernel_rfl
@[go_sem] theorem zs27 : (zeroV Try.prog 27).isSome = true := by kernel_rfl
@[go_sem] theorem zc27 : azeroCells Try.prog 27 = [.nils] := by kernel_rfl
@[go_sem] theorem zv27 : azero Try.prog 27 = .nils := by kernel_rfl
@[go_sem] theorem ok29 : okT Try.prog 29 = true := by kernel_rfl
@[go_sem] theorem sz29 : szOf Try.prog 29 = 4 := by kernel_rfl
@[go_sem] theorem by29 : bytesOf Try.prog 29 = 48 := by kernel_rfl
@[go_sem] theorem ag29 : aggT Try.prog 29 = true := by kernel_rfl
@[go_sem] theorem zs29 : (zeroV Try.prog 29).isSome = true := by kernel_rfl
@[go_sem] theorem zc29 : azeroCells Try.prog 29 = [.int .i64 0, .int .i64 0, .int .i64 0, .nils] := by kernel_rfl
@[go_sem] theorem zv29 : azero Try.prog 29 = .agg [.int .i64 0, .int .i64 0, .int .i64 0, .nils] := by kernel_rfl
@[go_sem] theorem fi29x0 : fieldT Try.prog 29 0 = some (0, 1) := by kernel_rfl
@[go_sem] theorem fi29x1 : fieldT Try.prog 29 1 = some (1, 1) := by kernel_rfl
@[go_sem] theorem fi29x2 : fieldT Try.prog 29 2 = some (2, 1) := by kernel_rfl
@[go_sem] theorem fi29x3 : fieldT Try.prog 29 3 = some (3, 1) := by kernel_rfl
@[go_sem] theorem pl29 : placesOf Try.prog 29 = some [(0, 1), (1, 1), (2, 1), (3, 1)] := by kernel_rfl
@[go_sem] theorem ok39 : okT Try.prog 39 = true := by kernel_rfl
@[go_sem] theorem sz39 : szOf Try.prog 39 = 2 := by kernel_rfl
@[go_sem] theorem by39 : bytesOf Try.prog 39 = 16 := by kernel_rfl
@[go_sem] theorem ag39 : aggT Try.prog 39 = true := by kernel_rfl
@[go_sem] theorem zs39 : (zeroV Try.prog 39).isSome = true := by kernel_rfl
@[go_sem] theorem zc39 : azeroCells Try.prog 39 = [.int .i64 0, .int .i64 0] := by kernel_rfl
@[go_sem] theorem zv39 : azero Try.prog 39 = .agg [.int .i64 0, .int .i64 0] := by kernel_rfl
@[go_sem] theorem fi39x0 : fieldT Try.prog 39 0 = some (0, 1) := by kernel_rfl
@[go_sem] theorem fi39x1 : fieldT Try.prog 39 1 = some (1, 1) := by kernel_rfl
@[go_sem] theorem pl39 : placesOf Try.prog 39 = some [(0, 1), (1, 1)] := by kernel_rfl
@[go_sem] theorem eo39 : eqOffs Try.prog 39 = some [(0, false), (1, false)] := by kernel_rfl
@[go_sem] theorem ok43 : okT Try.prog 43 = true := by kernel_rfl
@[go_sem] theorem sz43 : szOf Try.prog 43 = 3 := by kernel_rfl
@[go_sem] theorem by43 : bytesOf Try.prog 43 = 24 := by kernel_rfl
@[go_sem] theorem ag43 : aggT Try.prog 43 = true := by kernel_rfl
@[go_sem] theorem ar43 : arrT Try.prog 43 = some (3, 3) := by kernel_rfl
@[go_sem] theorem eln43 : elemT Try.prog 43 = none := by kernel_rfl
@[go_sem] theorem zs43 : (zeroV Try.prog 43).isSome = true := by kernel_rfl
@[go_sem] theorem zc43 : azeroCells Try.prog 43 = [.int .i64 0, .int .i64 0, .int .i64 0] := by kernel_rfl
@[go_sem] theorem zv43 : azero Try.prog 43 = .agg [.int .i64 0, .int .i64 0, .int .i64 0] := by kernel_rfl
@[go_sem] theorem ok50 : okT Try.prog 50 = true := by kernel_rfl
@[go_sem] theorem sz50 : szOf Try.prog 50 = 1 := by kernel_rfl
@[go_sem] theorem by50 : bytesOf Try.prog 50 = 8 := by kernel_rfl
@[go_sem] theorem ag50 : aggT Try.prog 50 = false := by kernel_rfl
@[go_sem] theorem zs50 : (zeroV Try.prog 50).isSome = true := by kernel_rfl
@[go_sem] theorem zc50 : azeroCells Try.prog 50 = [.any] := by kernel_rfl
@[go_sem] theorem zv50 : azero Try.prog 50 = .any := by kernel_rfl
@[go_sem] theorem ok53 : okT Try.prog 53 = true := by kernel_rfl
@[go_sem] theorem sz53 : szOf Try.prog 53 = 1 := by kernel_rfl
@[go_sem] theorem by53 : bytesOf Try.prog 53 = 8 := by kernel_rfl
@[go_sem] theorem ag53 : aggT Try.prog 53 = false := by kernel_rfl
@[go_sem] theorem zs53 : (zeroV Try.prog 53).isSome = true := by kernel_rfl
@[go_sem] theorem zc53 : azeroCells Try.prog 53 = [.any] := by kernel_rfl
@[go_sem] theorem zv53 : azero Try.prog 53 = .any := by kernel_rfl
@[go_sem] theorem ok61 : okT Try.prog 61 = true := by kernel_rfl
@[go_sem] theorem sz61 : szOf Try.prog 61 = 1 := by kernel_rfl
@[go_sem] theorem by61 : bytesOf Try.prog 61 = 8 := by kernel_rfl
@[go_sem] theorem ag61 : aggT Try.prog 61 = false := by kernel_rfl
@[go_sem] theorem zs61 : (zeroV Try.prog 61).isSome = true := by kernel_rfl
@[go_sem] theorem zc61 : azeroCells Try.prog 61 = [.any] := by kernel_rfl
@[go_sem] theorem zv61 : azero Try.prog 61 = .any := by kernel_rfl
@[go_sem] theorem ok64 : okT Try.prog 64 = true := by kernel_rfl
@[go_sem] theorem sz64 : szOf Try.prog 64 = 1 := by kernel_rfl
@[go_sem] theorem by64 : bytesOf Try.prog 64 = 8 := by kernel_rfl
@[go_sem] theorem ag64 : aggT Try.prog 64 = false := by kernel_rfl
@[go_sem] theorem un64 : Program.underlying Try.prog 64 = some (.int .u64) := by kernel_rfl
@[go_sem] theorem zs64 : (zeroV Try.prog 64).isSome = true := by kernel_rfl
@[go_sem] theorem zc64 : azeroCells Try.prog 64 = [.int .u64 0] := by kernel_rfl
@[go_sem] theorem zv64 : azero Try.prog 64 = .int .u64 0 := by kernel_rfl
@[go_sem] theorem ok69 : okT Try.prog 69 = true := by kernel_rfl
@[go_sem] theorem sz69 : szOf Try.prog 69 = 1 := by kernel_rfl
@[go_sem] theorem by69 : bytesOf Try.prog 69 = 8 := by kernel_rfl
@[go_sem] theorem ag69 : aggT Try.prog 69 = false := by kernel_rfl
@[go_sem] theorem un69 : Program.underlying Try.prog 69 = some (.int .i64) := by kernel_rfl
@[go_sem] theorem zs69 : (zeroV Try.prog 69).isSome = true := by kernel_rfl
@[go_sem] theorem zc69 : azeroCells Try.prog 69 = [.int .i64 0] := by kernel_rfl
@[go_sem] theorem zv69 : azero Try.prog 69 = .int .i64 0 := by kernel_rfl
@[go_sem] theorem ok77 : okT Try.prog 77 = true := by kernel_rfl
@[go_sem] theorem sz77 : szOf Try.prog 77 = 1 := by kernel_rfl
@[go_sem] theorem by77 : bytesOf Try.prog 77 = 4 := by kernel_rfl
@[go_sem] theorem ag77 : aggT Try.prog 77 = false := by kernel_rfl
@[go_sem] theorem un77 : Program.underlying Try.prog 77 = some (.int .u32) := by kernel_rfl
@[go_sem] theorem zs77 : (zeroV Try.prog 77).isSome = true := by kernel_rfl
@[go_sem] theorem zc77 : azeroCells Try.prog 77 = [.int .u32 0] := by kernel_rfl
@[go_sem] theorem zv77 : azero Try.prog 77 = .int .u32 0 := by kernel_rfl
@[go_sem] theorem ok79 : okT Try.prog 79 = true := by kernel_rfl
@[go_sem] theorem sz79 : szOf Try.prog 79 = 1 := by kernel_rfl
@[go_sem] theorem by79 : bytesOf Try.prog 79 = 8 := by kernel_rfl
@[go_sem] theorem ag79 : aggT Try.prog 79 = false := by kernel_rfl
@[go_sem] theorem un79 : Program.underlying Try.prog 79 = some (.int .u64) := by kernel_rfl
@[go_sem] theorem zs79 : (zeroV Try.prog 79).isSome = true := by kernel_rfl
@[go_sem] theorem zc79 : azeroCells Try.prog 79 = [.int .u64 0] := by kernel_rfl
@[go_sem] theorem zv79 : azero Try.prog 79 = .int .u64 0 := by kernel_rfl
@[go_sem] theorem ok80 : okT Try.prog 80 = true := by kernel_rfl
@[go_sem] theorem sz80 : szOf Try.prog 80 = 1 := by kernel_rfl
@[go_sem] theorem by80 : bytesOf Try.prog 80 = 8 := by kernel_rfl
@[go_sem] theorem ag80 : aggT Try.prog 80 = false := by kernel_rfl
@[go_sem] theorem un80 : Program.underlying Try.prog 80 = some (.int .u64) := by kernel_rfl
@[go_sem] theorem zs80 : (zeroV Try.prog 80).isSome = true := by kernel_rfl
@[go_sem] theorem zc80 : azeroCells Try.prog 80 = [.int .u64 0] := by kernel_rfl
@[go_sem] theorem zv80 : azero Try.prog 80 = .int .u64 0 := by kernel_rfl
@[go_sem] theorem ok84 : okT Try.prog 84 = true := by kernel_rfl
@[go_sem] theorem sz84 : szOf Try.prog 84 = 1 := by kernel_rfl
@[go_sem] theorem by84 : bytesOf Try.prog 84 = 8 := by kernel_rfl
@[go_sem] theorem ag84 : aggT Try.prog 84 = false := by kernel_rfl
@[go_sem] theorem zs84 : (zeroV Try.prog 84).isSome = true := by kernel_rfl
@[go_sem] theorem zc84 : azeroCells Try.prog 84 = [.any] := by kernel_rfl
@[go_sem] theorem zv84 : azero Try.prog 84 = .any := by kernel_rfl
@[go_sem] theorem ok86 : okT Try.prog 86 = true := by kernel_rfl
@[go_sem] theorem sz86 : szOf Try.prog 86 = 1 := by kernel_rfl
@[go_sem] theorem by86 : bytesOf Try.prog 86 = 8 := by kernel_rfl
@[go_sem] theorem ag86 : aggT Try.prog 86 = false := by kernel_rfl
@[go_sem] theorem zs86 : (zeroV Try.prog 86).isSome = true := by kernel_rfl
@[go_sem] theorem zc86 : azeroCells Try.prog 86 = [.any] := by kernel_rfl
@[go_sem] theorem zv86 : azero Try.prog 86 = .any := by kernel_rfl
end Go.Proofs.Ytjdgjilnldofaaa
