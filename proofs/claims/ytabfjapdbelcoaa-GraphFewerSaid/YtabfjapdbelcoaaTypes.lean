/-
  Facts on the types of the seat's program, printed by a small program of our own (wip/TypesGen.lean.txt).
-/
import Derived.Test.YtabfjapdbelcoaaChecked
import Derived.Test.YtabfjapdbelcoaaSkC
import Derived.Test.YtabfjapdbelcoaaSkH
import Derived.KernelRfl
namespace Go.Proofs.Ytabfjapdbelcoaa
open Go Go.Ab
theorem Try.mixed : Try.prog.follows .mixedOrders = true := by kernel_rfl
@[go_sem] theorem ok3 : okT Try.prog 3 = true := by kernel_rfl
@[go_sem] theorem sz3 : szOf Try.prog 3 = 1 := by kernel_rfl
@[go_sem] theorem by3 : bytesOf Try.prog 3 = 8 := by kernel_rfl
@[go_sem] theorem ag3 : aggT Try.prog 3 = false := by kernel_rfl
@[go_sem] theorem un3 : Program.underlying Try.prog 3 = some (.int .i64) := by kernel_rfl
@[go_sem] theorem zs3 : (zeroV Try.prog 3).isSome = true := by kernel_rfl
@[go_sem] theorem zc3 : azeroCells Try.prog 3 = [.int .i64 0] := by kernel_rfl
@[go_sem] theorem zv3 : azero Try.prog 3 = .int .i64 0 := by kernel_rfl
@[go_sem] theorem ok4 : okT Try.prog 4 = true := by kernel_rfl
@[go_sem] theorem sz4 : szOf Try.prog 4 = 1 := by kernel_rfl
@[go_sem] theorem by4 : bytesOf Try.prog 4 = 1 := by kernel_rfl
@[go_sem] theorem ag4 : aggT Try.prog 4 = false := by kernel_rfl
@[go_sem] theorem un4 : Program.underlying Try.prog 4 = some (.bool) := by kernel_rfl
@[go_sem] theorem zs4 : (zeroV Try.prog 4).isSome = true := by kernel_rfl
@[go_sem] theorem zc4 : azeroCells Try.prog 4 = [.bool false] := by kernel_rfl
@[go_sem] theorem zv4 : azero Try.prog 4 = .bool false := by kernel_rfl
@[go_sem] theorem ok5 : okT Try.prog 5 = true := by kernel_rfl
@[go_sem] theorem sz5 : szOf Try.prog 5 = 1 := by kernel_rfl
@[go_sem] theorem by5 : bytesOf Try.prog 5 = 1 := by kernel_rfl
@[go_sem] theorem ag5 : aggT Try.prog 5 = false := by kernel_rfl
@[go_sem] theorem un5 : Program.underlying Try.prog 5 = some (.int .u8) := by kernel_rfl
@[go_sem] theorem zs5 : (zeroV Try.prog 5).isSome = true := by kernel_rfl
@[go_sem] theorem zc5 : azeroCells Try.prog 5 = [.int .u8 0] := by kernel_rfl
@[go_sem] theorem zv5 : azero Try.prog 5 = .int .u8 0 := by kernel_rfl
@[go_sem] theorem ok9 : okT Try.prog 9 = true := by kernel_rfl
@[go_sem] theorem sz9 : szOf Try.prog 9 = 1 := by kernel_rfl
@[go_sem] theorem by9 : bytesOf Try.prog 9 = 16 := by kernel_rfl
@[go_sem] theorem ag9 : aggT Try.prog 9 = false := by kernel_rfl
@[go_sem] theorem un9 : Program.underlying Try.prog 9 = some (.string) := by kernel_rfl
@[go_sem] theorem zs9 : (zeroV Try.prog 9).isSome = true := by kernel_rfl
@[go_sem] theorem zc9 : azeroCells Try.prog 9 = [.str ByteArray.empty] := by kernel_rfl
@[go_sem] theorem zv9 : azero Try.prog 9 = .str ByteArray.empty := by kernel_rfl
@[go_sem] theorem ok22 : okT Try.prog 22 = true := by kernel_rfl
@[go_sem] theorem sz22 : szOf Try.prog 22 = 1 := by kernel_rfl
@[go_sem] theorem by22 : bytesOf Try.prog 22 = 24 := by kernel_rfl
@[go_sem] theorem ag22 : aggT Try.prog 22 = false := by kernel_rfl
@[go_sem] theorem un22 : Program.underlying Try.prog 22 = some (.slice 42) := by kernel_rfl
@[go_sem] theorem el22 : elemT Try.prog 22 = some 42 := by kernel_rfl
@[go_sem] theorem zs22 : (zeroV Try.prog 22).isSome = true := by kernel_rfl
@[go_sem] theorem zc22 : azeroCells Try.prog 22 = [.nils] := by kernel_rfl
@[go_sem] theorem zv22 : azero Try.prog 22 = .nils := by kernel_rfl
@[go_sem] theorem ok24 : okT Try.prog 24 = true := by kernel_rfl
@[go_sem] theorem sz24 : szOf Try.prog 24 = 1 := by kernel_rfl
@[go_sem] theorem by24 : bytesOf Try.prog 24 = 8 := by kernel_rfl
@[go_sem] theorem ag24 : aggT Try.prog 24 = false := by kernel_rfl
@[go_sem] theorem un24 : Program.underlying Try.prog 24 = some (.int .i64) := by kernel_rfl
@[go_sem] theorem zs24 : (zeroV Try.prog 24).isSome = true := by kernel_rfl
@[go_sem] theorem zc24 : azeroCells Try.prog 24 = [.int .i64 0] := by kernel_rfl
@[go_sem] theorem zv24 : azero Try.prog 24 = .int .i64 0 := by kernel_rfl
@[go_sem] theorem ok27 : okT Try.prog 27 = true := by kernel_rfl
@[go_sem] theorem sz27 : szOf Try.prog 27 = 1 := by kernel_rfl
@[go_sem] theorem by27 : bytesOf Try.prog 27 = 24 := by kernel_rfl
@[go_sem] theorem ag27 : aggT Try.prog 27 = false := by kernel_rfl
@[go_sem] theorem un27 : Program.underlying Try.prog 27 = some (.slice 3) := by kernel_rfl
@[go_sem] theorem el27 : elemT Try.prog 27 = some 3 := by kernel_rfl
@[go_sem] theorem zs27 : (zeroV Try.prog 27).isSome = true := by kernel_rfl
@[go_sem] theorem zc27 : azeroCells Try.prog 27 = [.nils] := by kernel_rfl
@[go_sem] theorem zv27 : azero Try.prog 27 = .nils := by kernel_rfl
@[go_sem] theorem ok36 : okT Try.prog 36 = true := by kernel_rfl
@[go_sem] theorem sz36 : szOf Try.prog 36 = 2 := by kernel_rfl
@[go_sem] theorem by36 : bytesOf Try.prog 36 = 16 := by kernel_rfl
@[go_sem] theorem ag36 : aggT Try.prog 36 = true := by kernel_rfl
@[go_sem] theorem ar36 : arrT Try.prog 36 = some (2, 3) := by kernel_rfl
@[go_sem] theorem eln36 : elemT Try.prog 36 = none := by kernel_rfl
@[go_sem] theorem zs36 : (zeroV Try.prog 36).isSome = true := by kernel_rfl
@[go_sem] theorem zc36 : azeroCells Try.prog 36 = [.int .i64 0, .int .i64 0] := by kernel_rfl
@[go_sem] theorem zv36 : azero Try.prog 36 = .agg [.int .i64 0, .int .i64 0] := by kernel_rfl
@[go_sem] theorem ok42 : okT Try.prog 42 = true := by kernel_rfl
@[go_sem] theorem sz42 : szOf Try.prog 42 = 4 := by kernel_rfl
@[go_sem] theorem by42 : bytesOf Try.prog 42 = 32 := by kernel_rfl
@[go_sem] theorem ag42 : aggT Try.prog 42 = true := by kernel_rfl
@[go_sem] theorem zs42 : (zeroV Try.prog 42).isSome = true := by kernel_rfl
@[go_sem] theorem zc42 : azeroCells Try.prog 42 = [.int .i64 0, .int .i64 0, .int .i64 0, .int .i64 0] := by kernel_rfl
@[go_sem] theorem zv42 : azero Try.prog 42 = .agg [.int .i64 0, .int .i64 0, .int .i64 0, .int .i64 0] := by kernel_rfl
@[go_sem] theorem fi42x0 : fieldT Try.prog 42 0 = some (0, 1) := by kernel_rfl
@[go_sem] theorem fi42x1 : fieldT Try.prog 42 1 = some (1, 1) := by kernel_rfl
@[go_sem] theorem fi42x2 : fieldT Try.prog 42 2 = some (2, 1) := by kernel_rfl
@[go_sem] theorem fi42x3 : fieldT Try.prog 42 3 = some (3, 1) := by kernel_rfl
@[go_sem] theorem pl42 : placesOf Try.prog 42 = some [(0, 1), (1, 1), (2, 1), (3, 1)] := by kernel_rfl
@[go_sem] theorem eo42 : eqOffs Try.prog 42 = some [(0, false), (1, false), (2, false), (3, false)] := by kernel_rfl
@[go_sem] theorem ok48 : okT Try.prog 48 = true := by kernel_rfl
@[go_sem] theorem sz48 : szOf Try.prog 48 = 1 := by kernel_rfl
@[go_sem] theorem by48 : bytesOf Try.prog 48 = 8 := by kernel_rfl
@[go_sem] theorem ag48 : aggT Try.prog 48 = false := by kernel_rfl
@[go_sem] theorem un48 : Program.underlying Try.prog 48 = some (.map 3 4) := by kernel_rfl
@[go_sem] theorem ke48 : keyT Try.prog 48 = some 4 := by kernel_rfl
@[go_sem] theorem zs48 : (zeroV Try.prog 48).isSome = true := by kernel_rfl
@[go_sem] theorem zc48 : azeroCells Try.prog 48 = [.nilm] := by kernel_rfl
@[go_sem] theorem zv48 : azero Try.prog 48 = .nilm := by kernel_rfl
@[go_sem] theorem ok49 : okT Try.prog 49 = true := by kernel_rfl
@[go_sem] theorem sz49 : szOf Try.prog 49 = 1 := by kernel_rfl
@[go_sem] theorem by49 : bytesOf Try.prog 49 = 8 := by kernel_rfl
@[go_sem] theorem ag49 : aggT Try.prog 49 = false := by kernel_rfl
@[go_sem] theorem zs49 : (zeroV Try.prog 49).isSome = true := by kernel_rfl
@[go_sem] theorem zc49 : azeroCells Try.prog 49 = [.any] := by kernel_rfl
@[go_sem] theorem zv49 : azero Try.prog 49 = .any := by kernel_rfl
@[go_sem] theorem ok50 : okT Try.prog 50 = true := by kernel_rfl
@[go_sem] theorem sz50 : szOf Try.prog 50 = 1 := by kernel_rfl
@[go_sem] theorem by50 : bytesOf Try.prog 50 = 8 := by kernel_rfl
@[go_sem] theorem ag50 : aggT Try.prog 50 = false := by kernel_rfl
@[go_sem] theorem un50 : Program.underlying Try.prog 50 = some (.map 3 27) := by kernel_rfl
@[go_sem] theorem ke50 : keyT Try.prog 50 = some 27 := by kernel_rfl
@[go_sem] theorem zs50 : (zeroV Try.prog 50).isSome = true := by kernel_rfl
@[go_sem] theorem zc50 : azeroCells Try.prog 50 = [.nilm] := by kernel_rfl
@[go_sem] theorem zv50 : azero Try.prog 50 = .nilm := by kernel_rfl
@[go_sem] theorem ok54 : okT Try.prog 54 = true := by kernel_rfl
@[go_sem] theorem sz54 : szOf Try.prog 54 = 1 := by kernel_rfl
@[go_sem] theorem by54 : bytesOf Try.prog 54 = 8 := by kernel_rfl
@[go_sem] theorem ag54 : aggT Try.prog 54 = false := by kernel_rfl
@[go_sem] theorem zs54 : (zeroV Try.prog 54).isSome = true := by kernel_rfl
@[go_sem] theorem zc54 : azeroCells Try.prog 54 = [.any] := by kernel_rfl
@[go_sem] theorem zv54 : azero Try.prog 54 = .any := by kernel_rfl
@[go_sem] theorem ok58 : okT Try.prog 58 = true := by kernel_rfl
@[go_sem] theorem sz58 : szOf Try.prog 58 = 1 := by kernel_rfl
@[go_sem] theorem by58 : bytesOf Try.prog 58 = 8 := by kernel_rfl
@[go_sem] theorem ag58 : aggT Try.prog 58 = false := by kernel_rfl
@[go_sem] theorem un58 : Program.underlying Try.prog 58 = some (.map 3 3) := by kernel_rfl
@[go_sem] theorem ke58 : keyT Try.prog 58 = some 3 := by kernel_rfl
@[go_sem] theorem zs58 : (zeroV Try.prog 58).isSome = true := by kernel_rfl
@[go_sem] theorem zc58 : azeroCells Try.prog 58 = [.nilm] := by kernel_rfl
@[go_sem] theorem zv58 : azero Try.prog 58 = .nilm := by kernel_rfl
@[go_sem] theorem ok62 : okT Try.prog 62 = true := by kernel_rfl
@[go_sem] theorem sz62 : szOf Try.prog 62 = 1 := by kernel_rfl
@[go_sem] theorem by62 : bytesOf Try.prog 62 = 8 := by kernel_rfl
@[go_sem] theorem ag62 : aggT Try.prog 62 = false := by kernel_rfl
@[go_sem] theorem un62 : Program.underlying Try.prog 62 = some (.map 3 65) := by kernel_rfl
@[go_sem] theorem ke62 : keyT Try.prog 62 = some 65 := by kernel_rfl
@[go_sem] theorem zs62 : (zeroV Try.prog 62).isSome = true := by kernel_rfl
@[go_sem] theorem zc62 : azeroCells Try.prog 62 = [.nilm] := by kernel_rfl
@[go_sem] theorem zv62 : azero Try.prog 62 = .nilm := by kernel_rfl
@[go_sem] theorem ok65 : okT Try.prog 65 = true := by kernel_rfl
@[go_sem] theorem sz65 : szOf Try.prog 65 = 2 := by kernel_rfl
@[go_sem] theorem by65 : bytesOf Try.prog 65 = 16 := by kernel_rfl
@[go_sem] theorem ag65 : aggT Try.prog 65 = true := by kernel_rfl
@[go_sem] theorem zs65 : (zeroV Try.prog 65).isSome = true := by kernel_rfl
@[go_sem] theorem zc65 : azeroCells Try.prog 65 = [.int .i64 0, .int .i64 0] := by kernel_rfl
@[go_sem] theorem zv65 : azero Try.prog 65 = .agg [.int .i64 0, .int .i64 0] := by kernel_rfl
@[go_sem] theorem fi65x0 : fieldT Try.prog 65 0 = some (0, 1) := by kernel_rfl
@[go_sem] theorem fi65x1 : fieldT Try.prog 65 1 = some (1, 1) := by kernel_rfl
@[go_sem] theorem pl65 : placesOf Try.prog 65 = some [(0, 1), (1, 1)] := by kernel_rfl
@[go_sem] theorem eo65 : eqOffs Try.prog 65 = some [(0, false), (1, false)] := by kernel_rfl
@[go_sem] theorem ok68 : okT Try.prog 68 = true := by kernel_rfl
@[go_sem] theorem sz68 : szOf Try.prog 68 = 1 := by kernel_rfl
@[go_sem] theorem by68 : bytesOf Try.prog 68 = 8 := by kernel_rfl
@[go_sem] theorem ag68 : aggT Try.prog 68 = false := by kernel_rfl
@[go_sem] theorem zs68 : (zeroV Try.prog 68).isSome = true := by kernel_rfl
@[go_sem] theorem zc68 : azeroCells Try.prog 68 = [.any] := by kernel_rfl
@[go_sem] theorem zv68 : azero Try.prog 68 = .any := by kernel_rfl
@[go_sem] theorem ok69 : okT Try.prog 69 = true := by kernel_rfl
@[go_sem] theorem sz69 : szOf Try.prog 69 = 1 := by kernel_rfl
@[go_sem] theorem by69 : bytesOf Try.prog 69 = 24 := by kernel_rfl
@[go_sem] theorem ag69 : aggT Try.prog 69 = false := by kernel_rfl
@[go_sem] theorem un69 : Program.underlying Try.prog 69 = some (.slice 72) := by kernel_rfl
@[go_sem] theorem el69 : elemT Try.prog 69 = some 72 := by kernel_rfl
@[go_sem] theorem zs69 : (zeroV Try.prog 69).isSome = true := by kernel_rfl
@[go_sem] theorem zc69 : azeroCells Try.prog 69 = [.nils] := by kernel_rfl
@[go_sem] theorem zv69 : azero Try.prog 69 = .nils := by kernel_rfl
@[go_sem] theorem ok72 : okT Try.prog 72 = true := by kernel_rfl
@[go_sem] theorem sz72 : szOf Try.prog 72 = 4 := by kernel_rfl
@[go_sem] theorem by72 : bytesOf Try.prog 72 = 32 := by kernel_rfl
@[go_sem] theorem ag72 : aggT Try.prog 72 = true := by kernel_rfl
@[go_sem] theorem zs72 : (zeroV Try.prog 72).isSome = true := by kernel_rfl
@[go_sem] theorem zc72 : azeroCells Try.prog 72 = [.int .i64 0, .int .i64 0, .int .i64 0, .bool false] := by kernel_rfl
@[go_sem] theorem zv72 : azero Try.prog 72 = .agg [.int .i64 0, .int .i64 0, .int .i64 0, .bool false] := by kernel_rfl
@[go_sem] theorem fi72x0 : fieldT Try.prog 72 0 = some (0, 1) := by kernel_rfl
@[go_sem] theorem fi72x1 : fieldT Try.prog 72 1 = some (1, 1) := by kernel_rfl
@[go_sem] theorem fi72x2 : fieldT Try.prog 72 2 = some (2, 1) := by kernel_rfl
@[go_sem] theorem fi72x3 : fieldT Try.prog 72 3 = some (3, 1) := by kernel_rfl
@[go_sem] theorem pl72 : placesOf Try.prog 72 = some [(0, 1), (1, 1), (2, 1), (3, 1)] := by kernel_rfl
@[go_sem] theorem eo72 : eqOffs Try.prog 72 = some [(0, false), (1, false), (2, false), (3, true)] := by kernel_rfl
@[go_sem] theorem ok83 : okT Try.prog 83 = true := by kernel_rfl
@[go_sem] theorem sz83 : szOf Try.prog 83 = 1 := by kernel_rfl
@[go_sem] theorem by83 : bytesOf Try.prog 83 = 8 := by kernel_rfl
@[go_sem] theorem ag83 : aggT Try.prog 83 = false := by kernel_rfl
@[go_sem] theorem un83 : Program.underlying Try.prog 83 = some (.int .u64) := by kernel_rfl
@[go_sem] theorem zs83 : (zeroV Try.prog 83).isSome = true := by kernel_rfl
@[go_sem] theorem zc83 : azeroCells Try.prog 83 = [.int .u64 0] := by kernel_rfl
@[go_sem] theorem zv83 : azero Try.prog 83 = .int .u64 0 := by kernel_rfl
@[go_sem] theorem ok85 : okT Try.prog 85 = true := by kernel_rfl
@[go_sem] theorem sz85 : szOf Try.prog 85 = 1 := by kernel_rfl
@[go_sem] theorem by85 : bytesOf Try.prog 85 = 8 := by kernel_rfl
@[go_sem] theorem ag85 : aggT Try.prog 85 = false := by kernel_rfl
@[go_sem] theorem un85 : Program.underlying Try.prog 85 = some (.int .i64) := by kernel_rfl
@[go_sem] theorem zs85 : (zeroV Try.prog 85).isSome = true := by kernel_rfl
@[go_sem] theorem zc85 : azeroCells Try.prog 85 = [.int .i64 0] := by kernel_rfl
@[go_sem] theorem zv85 : azero Try.prog 85 = .int .i64 0 := by kernel_rfl
@[go_sem] theorem ok93 : okT Try.prog 93 = true := by kernel_rfl
@[go_sem] theorem sz93 : szOf Try.prog 93 = 1 := by kernel_rfl
@[go_sem] theorem by93 : bytesOf Try.prog 93 = 4 := by kernel_rfl
@[go_sem] theorem ag93 : aggT Try.prog 93 = false := by kernel_rfl
@[go_sem] theorem un93 : Program.underlying Try.prog 93 = some (.int .u32) := by kernel_rfl
@[go_sem] theorem zs93 : (zeroV Try.prog 93).isSome = true := by kernel_rfl
@[go_sem] theorem zc93 : azeroCells Try.prog 93 = [.int .u32 0] := by kernel_rfl
@[go_sem] theorem zv93 : azero Try.prog 93 = .int .u32 0 := by kernel_rfl
@[go_sem] theorem ok95 : okT Try.prog 95 = true := by kernel_rfl
@[go_sem] theorem sz95 : szOf Try.prog 95 = 1 := by kernel_rfl
@[go_sem] theorem by95 : bytesOf Try.prog 95 = 8 := by kernel_rfl
@[go_sem] theorem ag95 : aggT Try.prog 95 = false := by kernel_rfl
@[go_sem] theorem un95 : Program.underlying Try.prog 95 = some (.int .u64) := by kernel_rfl
@[go_sem] theorem zs95 : (zeroV Try.prog 95).isSome = true := by kernel_rfl
@[go_sem] theorem zc95 : azeroCells Try.prog 95 = [.int .u64 0] := by kernel_rfl
@[go_sem] theorem zv95 : azero Try.prog 95 = .int .u64 0 := by kernel_rfl
@[go_sem] theorem ok96 : okT Try.prog 96 = true := by kernel_rfl
@[go_sem] theorem sz96 : szOf Try.prog 96 = 1 := by kernel_rfl
@[go_sem] theorem by96 : bytesOf Try.prog 96 = 8 := by kernel_rfl
@[go_sem] theorem ag96 : aggT Try.prog 96 = false := by kernel_rfl
@[go_sem] theorem un96 : Program.underlying Try.prog 96 = some (.int .u64) := by kernel_rfl
@[go_sem] theorem zs96 : (zeroV Try.prog 96).isSome = true := by kernel_rfl
@[go_sem] theorem zc96 : azeroCells Try.prog 96 = [.int .u64 0] := by kernel_rfl
@[go_sem] theorem zv96 : azero Try.prog 96 = .int .u64 0 := by kernel_rfl
@[go_sem] theorem ok100 : okT Try.prog 100 = true := by kernel_rfl
@[go_sem] theorem sz100 : szOf Try.prog 100 = 1 := by kernel_rfl
@[go_sem] theorem by100 : bytesOf Try.prog 100 = 8 := by kernel_rfl
@[go_sem] theorem ag100 : aggT Try.prog 100 = false := by kernel_rfl
@[go_sem] theorem zs100 : (zeroV Try.prog 100).isSome = true := by kernel_rfl
@[go_sem] theorem zc100 : azeroCells Try.prog 100 = [.any] := by kernel_rfl
@[go_sem] theorem zv100 : azero Try.prog 100 = .any := by kernel_rfl
@[go_sem] theorem ok102 : okT Try.prog 102 = true := by kernel_rfl
@[go_sem] theorem sz102 : szOf Try.prog 102 = 1 := by kernel_rfl
@[go_sem] theorem by102 : bytesOf Try.prog 102 = 8 := by kernel_rfl
@[go_sem] theorem ag102 : aggT Try.prog 102 = false := by kernel_rfl
@[go_sem] theorem zs102 : (zeroV Try.prog 102).isSome = true := by kernel_rfl
@[go_sem] theorem zc102 : azeroCells Try.prog 102 = [.any] := by kernel_rfl
@[go_sem] theorem zv102 : azero Try.prog 102 = .any := by kernel_rfl
end Go.Proofs.Ytabfjapdbelcoaa
