/-
  Facts on the types of the seat's program, printed by a small program of our own (wip/TypesGen.lean.txt).
-/
import Derived.Test.YtciaimpdnjpajaaChecked
import Derived.Test.YtciaimpdnjpajaaSkC
import Derived.Test.YtciaimpdnjpajaaSkZF
import Derived.KernelRfl
namespace Go.Proofs.Ytciaimpdnjpajaa
open Go Go.Ab
theorem Try.mixed : Try.prog.follows .mixedOrders = true := by kernel_rfl
@[go_sem] theorem ok3 : okT Try.prog 3 = true := by kernel_rfl
@[go_sem] theorem sz3 : szOf Try.prog 3 = 1 := by kernel_rfl
@[go_sem] theorem by3 : bytesOf Try.prog 3 = 8 := by kernel_rfl
@[go_sem] theorem ag3 : aggT Try.prog 3 = false := by kernel_rfl
@[go_sem] theorem un3 : Program.underlying Try.prog 3 = some (.int .i64) := by kernel_rfl
@[go_sem] theorem zs3 : (zeroV Try.prog 3).isSome = true := by kernel_rfl
@[go_sem] theorem zc3 : azeroCells Try.prog 3 = [.int .i64 0] := by kernel_rfl
@[go_sem] theorem zv3 : azero Try.prog 3 = .int .i64 0 := by kernel_rfl
@[go_sem] theorem ok4 : okT Try.prog 4 = true := by kernel_rfl
@[go_sem] theorem sz4 : szOf Try.prog 4 = 1 := by kernel_rfl
@[go_sem] theorem by4 : bytesOf Try.prog 4 = 1 := by kernel_rfl
@[go_sem] theorem ag4 : aggT Try.prog 4 = false := by kernel_rfl
@[go_sem] theorem un4 : Program.underlying Try.prog 4 = some (.bool) := by kernel_rfl
@[go_sem] theorem zs4 : (zeroV Try.prog 4).isSome = true := by kernel_rfl
@[go_sem] theorem zc4 : azeroCells Try.prog 4 = [.bool false] := by kernel_rfl
@[go_sem] theorem zv4 : azero Try.prog 4 = .bool false := by kernel_rfl
@[go_sem] theorem ok5 : okT Try.prog 5 = true := by kernel_rfl
@[go_sem] theorem sz5 : szOf Try.prog 5 = 1 := by kernel_rfl
@[go_sem] theorem by5 : bytesOf Try.prog 5 = 1 := by kernel_rfl
@[go_sem] theorem ag5 : aggT Try.prog 5 = false := by kernel_rfl
@[go_sem] theorem un5 : Program.underlying Try.prog 5 = some (.int .u8) := by kernel_rfl
@[go_sem] theorem zs5 : (zeroV Try.prog 5).isSome = true := by kernel_rfl
@[go_sem] theorem zc5 : azeroCells Try.prog 5 = [.int .u8 0] := by kernel_rfl
@[go_sem] theorem zv5 : azero Try.prog 5 = .int .u8 0 := by kernel_rfl
@[go_sem] theorem ok9 : okT Try.prog 9 = true := by kernel_rfl
@[go_sem] theorem sz9 : szOf Try.prog 9 = 1 := by kernel_rfl
@[go_sem] theorem by9 : bytesOf Try.prog 9 = 16 := by kernel_rfl
@[go_sem] theorem ag9 : aggT Try.prog 9 = false := by kernel_rfl
@[go_sem] theorem un9 : Program.underlying Try.prog 9 = some (.string) := by kernel_rfl
@[go_sem] theorem zs9 : (zeroV Try.prog 9).isSome = true := by kernel_rfl
@[go_sem] theorem zc9 : azeroCells Try.prog 9 = [.str ByteArray.empty] := by kernel_rfl
@[go_sem] theorem zv9 : azero Try.prog 9 = .str ByteArray.empty := by kernel_rfl
@[go_sem] theorem ok22 : okT Try.prog 22 = true := by kernel_rfl
@[go_sem] theorem sz22 : szOf Try.prog 22 = 1 := by kernel_rfl
@[go_sem] theorem by22 : bytesOf Try.prog 22 = 24 := by kernel_rfl
@[go_sem] theorem ag22 : aggT Try.prog 22 = false := by kernel_rfl
@[go_sem] theorem un22 : Program.underlying Try.prog 22 = some (.slice 34) := by kernel_rfl
@[go_sem] theorem el22 : elemT Try.prog 22 = some 34 := by kernel_rfl
@[go_sem] theorem zs22 : (zeroV Try.prog 22).isSome = true := by kernel_rfl
@[go_sem] theorem zc22 : azeroCells Try.prog 22 = [.nils] := by kernel_rfl
@[go_sem] theorem zv22 : azero Try.prog 22 = .nils := by kernel_rfl
@[go_sem] theorem ok25 : okT Try.prog 25 = true := by kernel_rfl
@[go_sem] theorem sz25 : szOf Try.prog 25 = 1 := by kernel_rfl
@[go_sem] theorem by25 : bytesOf Try.prog 25 = 8 := by kernel_rfl
@[go_sem] theorem ag25 : aggT Try.prog 25 = false := by kernel_rfl
@[go_sem] theorem un25 : Program.underlying Try.prog 25 = some (.int .i64) := by kernel_rfl
@[go_sem] theorem zs25 : (zeroV Try.prog 25).isSome = true := by kernel_rfl
@[go_sem] theorem zc25 : azeroCells Try.prog 25 = [.int .i64 0] := by kernel_rfl
@[go_sem] theorem zv25 : azero Try.prog 25 = .int .i64 0 := by kernel_rfl
@[go_sem] theorem ok31 : okT Try.prog 31 = true := by kernel_rfl
@[go_sem] theorem sz31 : szOf Try.prog 31 = 1 := by kernel_rfl
@[go_sem] theorem by31 : bytesOf Try.prog 31 = 24 := by kernel_rfl
@[go_sem] theorem ag31 : aggT Try.prog 31 = false := by kernel_rfl
@[go_sem] theorem un31 : Program.underlying Try.prog 31 = some (.slice 3) := by kernel_rfl
@[go_sem] theorem el31 : elemT Try.prog 31 = some 3 := by kernel_rfl
@[go_sem] theorem zs31 : (zeroV Try.prog 31).isSome = true := by kernel_rfl
@[go_sem] theorem zc31 : azeroCells Try.prog 31 = [.nils] := by kernel_rfl
@[go_sem] theorem zv31 : azero Try.prog 31 = .nils := by kernel_rfl
@[go_sem] theorem ok34 : okT Try.prog 34 = true := by kernel_rfl
@[go_sem] theorem sz34 : szOf Try.prog 34 = 6 := by kernel_rfl
@[go_sem] theorem by34 : bytesOf Try.prog 34 = 80 := by kernel_rfl
@[go_sem] theorem ag34 : aggT Try.prog 34 = true := by kernel_rfl
@[go_sem] theorem zs34 : (zeroV Try.prog 34).isSome = true := by kernel_rfl
@[go_sem] theorem zc34 : azeroCells Try.prog 34 = [.int .i64 0, .nils, .nils, .int .i64 0, .int .i64 0, .int .i64 0] := by kernel_rfl
@[go_sem] theorem zv34 : azero Try.prog 34 = .agg [.int .i64 0, .nils, .nils, .int .i64 0, .int .i64 0, .int .i64 0] := by kernel_rfl
@[go_sem] theorem fi34x0 : fieldT Try.prog 34 0 = some (0, 1) := by kernel_rfl
@[go_sem] theorem fi34x1 : fieldT Try.prog 34 1 = some (1, 1) := by kernel_rfl
@[go_sem] theorem fi34x2 : fieldT Try.prog 34 2 = some (2, 1) := by kernel_rfl
@[go_sem] theorem fi34x3 : fieldT Try.prog 34 3 = some (3, 1) := by kernel_rfl
@[go_sem] theorem fi34x4 : fieldT Try.prog 34 4 = some (4, 1) := by kernel_rfl
@[go_sem] theorem fi34x5 : fieldT Try.prog 34 5 = some (5, 1) := by kernel_rfl
@[go_sem] theorem pl34 : placesOf Try.prog 34 = some [(0, 1), (1, 1), (2, 1), (3, 1), (4, 1), (5, 1)] := by kernel_rfl
@[go_sem] theorem ok39 : okT Try.prog 39 = true := by kernel_rfl
@[go_sem] theorem sz39 : szOf Try.prog 39 = 1 := by kernel_rfl
@[go_sem] theorem by39 : bytesOf Try.prog 39 = 24 := by kernel_rfl
@[go_sem] theorem ag39 : aggT Try.prog 39 = false := by kernel_rfl
@[go_sem] theorem un39 : Program.underlying Try.prog 39 = some (.slice 5) := by kernel_rfl
@[go_sem] theorem el39 : elemT Try.prog 39 = some 5 := by kernel_rfl
@[go_sem] theorem zs39 : (zeroV Try.prog 39).isSome = true := by kernel_rfl
@[go_sem] theorem zc39 : azeroCells Try.prog 39 = [.nils] := by kernel_rfl
@[go_sem] theorem zv39 : azero Try.prog 39 = .nils := by kernel_rfl
@[go_sem] theorem ok43 : okT Try.prog 43 = true := by kernel_rfl
@[go_sem] theorem sz43 : szOf Try.prog 43 = 1 := by kernel_rfl
@[go_sem] theorem by43 : bytesOf Try.prog 43 = 2 := by kernel_rfl
@[go_sem] theorem ag43 : aggT Try.prog 43 = false := by kernel_rfl
@[go_sem] theorem un43 : Program.underlying Try.prog 43 = some (.int .u16) := by kernel_rfl
@[go_sem] theorem zs43 : (zeroV Try.prog 43).isSome = true := by kernel_rfl
@[go_sem] theorem zc43 : azeroCells Try.prog 43 = [.int .u16 0] := by kernel_rfl
@[go_sem] theorem zv43 : azero Try.prog 43 = .int .u16 0 := by kernel_rfl
@[go_sem] theorem ok47 : okT Try.prog 47 = true := by kernel_rfl
@[go_sem] theorem sz47 : szOf Try.prog 47 = 1 := by kernel_rfl
@[go_sem] theorem by47 : bytesOf Try.prog 47 = 8 := by kernel_rfl
@[go_sem] theorem ag47 : aggT Try.prog 47 = false := by kernel_rfl
@[go_sem] theorem zs47 : (zeroV Try.prog 47).isSome = true := by kernel_rfl
@[go_sem] theorem zc47 : azeroCells Try.prog 47 = [.any] := by kernel_rfl
@[go_sem] theorem zv47 : azero Try.prog 47 = .any := by kernel_rfl
@[go_sem] theorem ok56 : okT Try.prog 56 = true := by kernel_rfl
@[go_sem] theorem sz56 : szOf Try.prog 56 = 1 := by kernel_rfl
@[go_sem] theorem by56 : bytesOf Try.prog 56 = 8 := by kernel_rfl
@[go_sem] theorem ag56 : aggT Try.prog 56 = false := by kernel_rfl
@[go_sem] theorem un56 : Program.underlying Try.prog 56 = some (.int .u64) := by kernel_rfl
@[go_sem] theorem zs56 : (zeroV Try.prog 56).isSome = true := by kernel_rfl
@[go_sem] theorem zc56 : azeroCells Try.prog 56 = [.int .u64 0] := by kernel_rfl
@[go_sem] theorem zv56 : azero Try.prog 56 = .int .u64 0 := by kernel_rfl
@[go_sem] theorem ok58 : okT Try.prog 58 = true := by kernel_rfl
@[go_sem] theorem sz58 : szOf Try.prog 58 = 1 := by kernel_rfl
@[go_sem] theorem by58 : bytesOf Try.prog 58 = 8 := by kernel_rfl
@[go_sem] theorem ag58 : aggT Try.prog 58 = false := by kernel_rfl
@[go_sem] theorem un58 : Program.underlying Try.prog 58 = some (.int .i64) := by kernel_rfl
@[go_sem] theorem zs58 : (zeroV Try.prog 58).isSome = true := by kernel_rfl
@[go_sem] theorem zc58 : azeroCells Try.prog 58 = [.int .i64 0] := by kernel_rfl
@[go_sem] theorem zv58 : azero Try.prog 58 = .int .i64 0 := by kernel_rfl
@[go_sem] theorem ok67 : okT Try.prog 67 = true := by kernel_rfl
@[go_sem] theorem sz67 : szOf Try.prog 67 = 1 := by kernel_rfl
@[go_sem] theorem by67 : bytesOf Try.prog 67 = 4 := by kernel_rfl
@[go_sem] theorem ag67 : aggT Try.prog 67 = false := by kernel_rfl
@[go_sem] theorem un67 : Program.underlying Try.prog 67 = some (.int .u32) := by kernel_rfl
@[go_sem] theorem zs67 : (zeroV Try.prog 67).isSome = true := by kernel_rfl
@[go_sem] theorem zc67 : azeroCells Try.prog 67 = [.int .u32 0] := by kernel_rfl
@[go_sem] theorem zv67 : azero Try.prog 67 = .int .u32 0 := by kernel_rfl
@[go_sem] theorem ok69 : okT Try.prog 69 = true := by kernel_rfl
@[go_sem] theorem sz69 : szOf Try.prog 69 = 1 := by kernel_rfl
@[go_sem] theorem by69 : bytesOf Try.prog 69 = 8 := by kernel_rfl
@[go_sem] theorem ag69 : aggT Try.prog 69 = false := by kernel_rfl
@[go_sem] theorem un69 : Program.underlying Try.prog 69 = some (.int .u64) := by kernel_rfl
@[go_sem] theorem zs69 : (zeroV Try.prog 69).isSome = true := by kernel_rfl
@[go_sem] theorem zc69 : azeroCells Try.prog 69 = [.int .u64 0] := by kernel_rfl
@[go_sem] theorem zv69 : azero Try.prog 69 = .int .u64 0 := by kernel_rfl
@[go_sem] theorem ok70 : okT Try.prog 70 = true := by kernel_rfl
@[go_sem] theorem sz70 : szOf Try.prog 70 = 1 := by kernel_rfl
@[go_sem] theorem by70 : bytesOf Try.prog 70 = 8 := by kernel_rfl
@[go_sem] theorem ag70 : aggT Try.prog 70 = false := by kernel_rfl
@[go_sem] theorem un70 : Program.underlying Try.prog 70 = some (.int .u64) := by kernel_rfl
@[go_sem] theorem zs70 : (zeroV Try.prog 70).isSome = true := by kernel_rfl
@[go_sem] theorem zc70 : azeroCells Try.prog 70 = [.int .u64 0] := by kernel_rfl
@[go_sem] theorem zv70 : azero Try.prog 70 = .int .u64 0 := by kernel_rfl
@[go_sem] theorem ok74 : okT Try.prog 74 = true := by kernel_rfl
@[go_sem] theorem sz74 : szOf Try.prog 74 = 1 := by kernel_rfl
@[go_sem] theorem by74 : bytesOf Try.prog 74 = 8 := by kernel_rfl
@[go_sem] theorem ag74 : aggT Try.prog 74 = false := by kernel_rfl
@[go_sem] theorem zs74 : (zeroV Try.prog 74).isSome = true := by kernel_rfl
@[go_sem] theorem zc74 : azeroCells Try.prog 74 = [.any] := by kernel_rfl
@[go_sem] theorem zv74 : azero Try.prog 74 = .any := by kernel_rfl
@[go_sem] theorem ok77 : okT Try.prog 77 = true := by kernel_rfl
@[go_sem] theorem sz77 : szOf Try.prog 77 = 1 := by kernel_rfl
@[go_sem] theorem by77 : bytesOf Try.prog 77 = 8 := by kernel_rfl
@[go_sem] theorem ag77 : aggT Try.prog 77 = false := by kernel_rfl
@[go_sem] theorem zs77 : (zeroV Try.prog 77).isSome = true := by kernel_rfl
@[go_sem] theorem zc77 : azeroCells Try.prog 77 = [.any] := by kernel_rfl
@[go_sem] theorem zv77 : azero Try.prog 77 = .any := by kernel_rfl
end Go.Proofs.Ytciaimpdnjpajaa
