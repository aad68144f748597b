/-
  Facts on the types of the seat's program, printed by a small program of our own (wip/TypesGen.lean.txt).
-/
import Derived.Test.YtnafejjdhdpanaaChecked
import Derived.Test.YtnafejjdhdpanaaSkC
import Derived.Test.YtnafejjdhdpanaaSkH
import Derived.KernelRfl
namespace Go.Proofs.Ytnafejjdhdpanaa
open Go Go.Ab
theorem Try.mixed : Try.prog.follows .mixedOrders = true := by kernel_rfl
@[go_sem] theorem ok3 : okT Try.prog 3 = true := by kernel_rfl
@[go_sem] theorem sz3 : szOf Try.prog 3 = 1 := by kernel_rfl
@[go_sem] theorem by3 : bytesOf Try.prog 3 = 8 := by kernel_rfl
@[go_sem] theorem ag3 : aggT Try.prog 3 = false := by kernel_rfl
@[go_sem] theorem un3 : Program.underlying Try.prog 3 = some (.int .i64) := by kernel_rfl
@[go_sem] theorem zs3 : (zeroV Try.prog 3).isSome = true := by kernel_rfl
@[go_sem] theorem zc3 : azeroCells Try.prog 3 = [.int .i64 0] := by kernel_rfl
@[go_sem] theorem zv3 : azero Try.prog 3 = .int .i64 0 := by kernel_rfl
@[go_sem] theorem ok4 : okT Try.prog 4 = true := by kernel_rfl
@[go_sem] theorem sz4 : szOf Try.prog 4 = 1 := by kernel_rfl
@[go_sem] theorem by4 : bytesOf Try.prog 4 = 1 := by kernel_rfl
@[go_sem] theorem ag4 : aggT Try.prog 4 = false := by kernel_rfl
@[go_sem] theorem un4 : Program.underlying Try.prog 4 = some (.bool) := by kernel_rfl
@[go_sem] theorem zs4 : (zeroV Try.prog 4).isSome = true := by kernel_rfl
@[go_sem] theorem zc4 : azeroCells Try.prog 4 = [.bool false] := by kernel_rfl
@[go_sem] theorem zv4 : azero Try.prog 4 = .bool false := by kernel_rfl
@[go_sem] theorem ok5 : okT Try.prog 5 = true := by kernel_rfl
@[go_sem] theorem sz5 : szOf Try.prog 5 = 1 := by kernel_rfl
@[go_sem] theorem by5 : bytesOf Try.prog 5 = 1 := by kernel_rfl
@[go_sem] theorem ag5 : aggT Try.prog 5 = false := by kernel_rfl
@[go_sem] theorem un5 : Program.underlying Try.prog 5 = some (.int .u8) := by kernel_rfl
@[go_sem] theorem zs5 : (zeroV Try.prog 5).isSome = true := by kernel_rfl
@[go_sem] theorem zc5 : azeroCells Try.prog 5 = [.int .u8 0] := by kernel_rfl
@[go_sem] theorem zv5 : azero Try.prog 5 = .int .u8 0 := by kernel_rfl
@[go_sem] theorem ok9 : okT Try.prog 9 = true := by kernel_rfl
@[go_sem] theorem sz9 : szOf Try.prog 9 = 1 := by kernel_rfl
@[go_sem] theorem by9 : bytesOf Try.prog 9 = 16 := by kernel_rfl
@[go_sem] theorem ag9 : aggT Try.prog 9 = false := by kernel_rfl
@[go_sem] theorem un9 : Program.underlying Try.prog 9 = some (.string) := by kernel_rfl
@[go_sem] theorem zs9 : (zeroV Try.prog 9).isSome = true := by kernel_rfl
@[go_sem] theorem zc9 : azeroCells Try.prog 9 = [.str ByteArray.empty] := by kernel_rfl
@[go_sem] theorem zv9 : azero Try.prog 9 = .str ByteArray.empty := by kernel_rfl
@[go_sem] theorem ok22 : okT Try.prog 22 = true := by kernel_rfl
@[go_sem] theorem sz22 : szOf Try.prog 22 = 1 := by kernel_rfl
@[go_sem] theorem by22 : bytesOf Try.prog 22 = 24 := by kernel_rfl
@[go_sem] theorem ag22 : aggT Try.prog 22 = false := by kernel_rfl
@[go_sem] theorem un22 : Program.underlying Try.prog 22 = some (.slice 47) := by kernel_rfl
@[go_sem] theorem el22 : elemT Try.prog 22 = some 47 := by kernel_rfl
@[go_sem] theorem zs22 : (zeroV Try.prog 22).isSome = true := by kernel_rfl
@[go_sem] theorem zc22 : azeroCells Try.prog 22 = [.nils] := by kernel_rfl
@[go_sem] theorem zv22 : azero Try.prog 22 = .nils := by kernel_rfl
@[go_sem] theorem ok23 : okT Try.prog 23 = true := by kernel_rfl
@[go_sem] theorem sz23 : szOf Try.prog 23 = 1 := by kernel_rfl
@[go_sem] theorem by23 : bytesOf Try.prog 23 = 24 := by kernel_rfl
@[go_sem] theorem ag23 : aggT Try.prog 23 = false := by kernel_rfl
@[go_sem] theorem un23 : Program.underlying Try.prog 23 = some (.slice 59) := by kernel_rfl
@[go_sem] theorem el23 : elemT Try.prog 23 = some 59 := by kernel_rfl
@[go_sem] theorem zs23 : (zeroV Try.prog 23).isSome = true := by kernel_rfl
@[go_sem] theorem zc23 : azeroCells Try.prog 23 = [.nils] := by kernel_rfl
@[go_sem] theorem zv23 : azero Try.prog 23 = .nils := by kernel_rfl
@[go_sem] theorem ok24 : okT Try.prog 24 = true := by kernel_rfl
@[go_sem] theorem sz24 : szOf Try.prog 24 = 1 := by kernel_rfl
@[go_sem] theorem by24 : bytesOf Try.prog 24 = 24 := by kernel_rfl
@[go_sem] theorem ag24 : aggT Try.prog 24 = false := by kernel_rfl
@[go_sem] theorem un24 : Program.underlying Try.prog 24 = some (.slice 69) := by kernel_rfl
@[go_sem] theorem el24 : elemT Try.prog 24 = some 69 := by kernel_rfl
@[go_sem] theorem zs24 : (zeroV Try.prog 24).isSome = true := by kernel_rfl
@[go_sem] theorem zc24 : azeroCells Try.prog 24 = [.nils] := by kernel_rfl
@[go_sem] theorem zv24 : azero Try.prog 24 = .nils := by kernel_rfl
@[go_sem] theorem ok25 : okT Try.prog 25 = true := by kernel_rfl
@[go_sem] theorem sz25 : szOf Try.prog 25 = 1 := by kernel_rfl
@[go_sem] theorem by25 : bytesOf Try.prog 25 = 24 := by kernel_rfl
@[go_sem] theorem ag25 : aggT Try.prog 25 = false := by kernel_rfl
@[go_sem] theorem un25 : Program.underlying Try.prog 25 = some (.slice 3) := by kernel_rfl
@[go_sem] theorem el25 : elemT Try.prog 25 = some 3 := by kernel_rfl
@[go_sem] theorem zs25 : (zeroV Try.prog 25).isSome = true := by kernel_rfl
@[go_sem] theorem zc25 : azeroCells Try.prog 25 = [.nils] := by kernel_rfl
@[go_sem] theorem zv25 : azero Try.prog 25 = .nils := by kernel_rfl
@[go_sem] theorem ok27 : okT Try.prog 27 = true := by kernel_rfl
@[go_sem] theorem sz27 : szOf Try.prog 27 = 4 := by kernel_rfl
@[go_sem] theorem by27 : bytesOf Try.prog 27 = 96 := by kernel_rfl
@[go_sem] theorem ag27 : aggT Try.prog 27 = true := by kernel_rfl
@[go_sem] theorem zs27 : (zeroV Try.prog 27).isSome = true := by kernel_rfl
@[go_sem] theorem zc27 : azeroCells Try.prog 27 = [.nils, .nils, .nils, .nils] := by kernel_rfl
@[go_sem] theorem zv27 : azero Try.prog 27 = .agg [.nils, .nils, .nils, .nils] := by kernel_rfl
@[go_sem] theorem fi27x0 : fieldT Try.prog 27 0 = some (0, 1) := by kernel_rfl
@[go_sem] theorem fi27x1 : fieldT Try.prog 27 1 = some (1, 1) := by kernel_rfl
@[go_sem] theorem fi27x2 : fieldT Try.prog 27 2 = some (2, 1) := by kernel_rfl
@[go_sem] theorem fi27x3 : fieldT Try.prog 27 3 = some (3, 1) := by kernel_rfl
@[go_sem] theorem pl27 : placesOf Try.prog 27 = some [(0, 1), (1, 1), (2, 1), (3, 1)] := by kernel_rfl
@[go_sem] theorem ok29 : okT Try.prog 29 = true := by kernel_rfl
@[go_sem] theorem sz29 : szOf Try.prog 29 = 6 := by kernel_rfl
@[go_sem] theorem by29 : bytesOf Try.prog 29 = 144 := by kernel_rfl
@[go_sem] theorem ag29 : aggT Try.prog 29 = true := by kernel_rfl
@[go_sem] theorem zs29 : (zeroV Try.prog 29).isSome = true := by kernel_rfl
@[go_sem] theorem zc29 : azeroCells Try.prog 29 = [.nils, .nils, .nils, .nils, .nils, .nils] := by kernel_rfl
@[go_sem] theorem zv29 : azero Try.prog 29 = .agg [.nils, .nils, .nils, .nils, .nils, .nils] := by kernel_rfl
@[go_sem] theorem fi29x0 : fieldT Try.prog 29 0 = some (0, 4) := by kernel_rfl
@[go_sem] theorem fi29x1 : fieldT Try.prog 29 1 = some (4, 1) := by kernel_rfl
@[go_sem] theorem fi29x2 : fieldT Try.prog 29 2 = some (5, 1) := by kernel_rfl
@[go_sem] theorem pl29 : placesOf Try.prog 29 = some [(0, 4), (4, 1), (5, 1)] := by kernel_rfl
@[go_sem] theorem ok44 : okT Try.prog 44 = true := by kernel_rfl
@[go_sem] theorem sz44 : szOf Try.prog 44 = 2 := by kernel_rfl
@[go_sem] theorem by44 : bytesOf Try.prog 44 = 16 := by kernel_rfl
@[go_sem] theorem ag44 : aggT Try.prog 44 = true := by kernel_rfl
@[go_sem] theorem ar44 : arrT Try.prog 44 = some (2, 3) := by kernel_rfl
@[go_sem] theorem eln44 : elemT Try.prog 44 = none := by kernel_rfl
@[go_sem] theorem zs44 : (zeroV Try.prog 44).isSome = true := by kernel_rfl
@[go_sem] theorem zc44 : azeroCells Try.prog 44 = [.int .i64 0, .int .i64 0] := by kernel_rfl
@[go_sem] theorem zv44 : azero Try.prog 44 = .agg [.int .i64 0, .int .i64 0] := by kernel_rfl
@[go_sem] theorem ok47 : okT Try.prog 47 = true := by kernel_rfl
@[go_sem] theorem sz47 : szOf Try.prog 47 = 2 := by kernel_rfl
@[go_sem] theorem by47 : bytesOf Try.prog 47 = 16 := by kernel_rfl
@[go_sem] theorem ag47 : aggT Try.prog 47 = true := by kernel_rfl
@[go_sem] theorem zs47 : (zeroV Try.prog 47).isSome = true := by kernel_rfl
@[go_sem] theorem zc47 : azeroCells Try.prog 47 = [.int .i64 0, .int .i64 0] := by kernel_rfl
@[go_sem] theorem zv47 : azero Try.prog 47 = .agg [.int .i64 0, .int .i64 0] := by kernel_rfl
@[go_sem] theorem fi47x0 : fieldT Try.prog 47 0 = some (0, 1) := by kernel_rfl
@[go_sem] theorem fi47x1 : fieldT Try.prog 47 1 = some (1, 1) := by kernel_rfl
@[go_sem] theorem pl47 : placesOf Try.prog 47 = some [(0, 1), (1, 1)] := by kernel_rfl
@[go_sem] theorem eo47 : eqOffs Try.prog 47 = some [(0, false), (1, false)] := by kernel_rfl
@[go_sem] theorem ok52 : okT Try.prog 52 = true := by kernel_rfl
@[go_sem] theorem sz52 : szOf Try.prog 52 = 1 := by kernel_rfl
@[go_sem] theorem by52 : bytesOf Try.prog 52 = 8 := by kernel_rfl
@[go_sem] theorem ag52 : aggT Try.prog 52 = false := by kernel_rfl
@[go_sem] theorem un52 : Program.underlying Try.prog 52 = some (.int .i64) := by kernel_rfl
@[go_sem] theorem zs52 : (zeroV Try.prog 52).isSome = true := by kernel_rfl
@[go_sem] theorem zc52 : azeroCells Try.prog 52 = [.int .i64 0] := by kernel_rfl
@[go_sem] theorem zv52 : azero Try.prog 52 = .int .i64 0 := by kernel_rfl
@[go_sem] theorem ok55 : okT Try.prog 55 = true := by kernel_rfl
@[go_sem] theorem sz55 : szOf Try.prog 55 = 1 := by kernel_rfl
@[go_sem] theorem by55 : bytesOf Try.prog 55 = 24 := by kernel_rfl
@[go_sem] theorem ag55 : aggT Try.prog 55 = false := by kernel_rfl
@[go_sem] theorem un55 : Program.underlying Try.prog 55 = some (.slice 61) := by kernel_rfl
@[go_sem] theorem el55 : elemT Try.prog 55 = some 61 := by kernel_rfl
@[go_sem] theorem zs55 : (zeroV Try.prog 55).isSome = true := by kernel_rfl
@[go_sem] theorem zc55 : azeroCells Try.prog 55 = [.nils] := by kernel_rfl
@[go_sem] theorem zv55 : azero Try.prog 55 = .nils := by kernel_rfl
@[go_sem] theorem ok59 : okT Try.prog 59 = true := by kernel_rfl
@[go_sem] theorem sz59 : szOf Try.prog 59 = 8 := by kernel_rfl
@[go_sem] theorem by59 : bytesOf Try.prog 59 = 64 := by kernel_rfl
@[go_sem] theorem ag59 : aggT Try.prog 59 = true := by kernel_rfl
@[go_sem] theorem zs59 : (zeroV Try.prog 59).isSome = true := by kernel_rfl
@[go_sem] theorem zc59 : azeroCells Try.prog 59 = [.int .i64 0, .int .i64 0, .int .i64 0, .int .i64 0, .int .i64 0, .int .i64 0, .int .i64 0, .int .i64 0] := by kernel_rfl
@[go_sem] theorem zv59 : azero Try.prog 59 = .agg [.int .i64 0, .int .i64 0, .int .i64 0, .int .i64 0, .int .i64 0, .int .i64 0, .int .i64 0, .int .i64 0] := by kernel_rfl
@[go_sem] theorem fi59x0 : fieldT Try.prog 59 0 = some (0, 1) := by kernel_rfl
@[go_sem] theorem fi59x1 : fieldT Try.prog 59 1 = some (1, 1) := by kernel_rfl
@[go_sem] theorem fi59x2 : fieldT Try.prog 59 2 = some (2, 1) := by kernel_rfl
@[go_sem] theorem fi59x3 : fieldT Try.prog 59 3 = some (3, 1) := by kernel_rfl
@[go_sem] theorem fi59x4 : fieldT Try.prog 59 4 = some (4, 1) := by kernel_rfl
@[go_sem] theorem fi59x5 : fieldT Try.prog 59 5 = some (5, 1) := by kernel_rfl
@[go_sem] theorem fi59x6 : fieldT Try.prog 59 6 = some (6, 1) := by kernel_rfl
@[go_sem] theorem fi59x7 : fieldT Try.prog 59 7 = some (7, 1) := by kernel_rfl
@[go_sem] theorem pl59 : placesOf Try.prog 59 = some [(0, 1), (1, 1), (2, 1), (3, 1), (4, 1), (5, 1), (6, 1), (7, 1)] := by kernel_rfl
@[go_sem] theorem eo59 : eqOffs Try.prog 59 = some [(0, false), (1, false), (2, false), (3, false), (4, false), (5, false), (6, false), (7, false)] := by kernel_rfl
@[go_sem] theorem ok61 : okT Try.prog 61 = true := by kernel_rfl
@[go_sem] theorem sz61 : szOf Try.prog 61 = 4 := by kernel_rfl
@[go_sem] theorem by61 : bytesOf Try.prog 61 = 32 := by kernel_rfl
@[go_sem] theorem ag61 : aggT Try.prog 61 = true := by kernel_rfl
@[go_sem] theorem zs61 : (zeroV Try.prog 61).isSome = true := by kernel_rfl
@[go_sem] theorem zc61 : azeroCells Try.prog 61 = [.int .i64 0, .int .i64 0, .int .i64 0, .int .i64 0] := by kernel_rfl
@[go_sem] theorem zv61 : azero Try.prog 61 = .agg [.int .i64 0, .int .i64 0, .int .i64 0, .int .i64 0] := by kernel_rfl
@[go_sem] theorem fi61x0 : fieldT Try.prog 61 0 = some (0, 1) := by kernel_rfl
@[go_sem] theorem fi61x1 : fieldT Try.prog 61 1 = some (1, 1) := by kernel_rfl
@[go_sem] theorem fi61x2 : fieldT Try.prog 61 2 = some (2, 1) := by kernel_rfl
@[go_sem] theorem fi61x3 : fieldT Try.prog 61 3 = some (3, 1) := by kernel_rfl
@[go_sem] theorem pl61 : placesOf Try.prog 61 = some [(0, 1), (1, 1), (2, 1), (3, 1)] := by kernel_rfl
@[go_sem] theorem eo61 : eqOffs Try.prog 61 = some [(0, false), (1, false), (2, false), (3, false)] := by kernel_rfl
@[go_sem] theorem ok69 : okT Try.prog 69 = true := by kernel_rfl
@[go_sem] theorem sz69 : szOf Try.prog 69 = 7 := by kernel_rfl
@[go_sem] theorem by69 : bytesOf Try.prog 69 = 56 := by kernel_rfl
@[go_sem] theorem ag69 : aggT Try.prog 69 = true := by kernel_rfl
@[go_sem] theorem zs69 : (zeroV Try.prog 69).isSome = true := by kernel_rfl
@[go_sem] theorem zc69 : azeroCells Try.prog 69 = [.int .i64 0, .int .i64 0, .int .i64 0, .int .i64 0, .int .i64 0, .int .i64 0, .int .i64 0] := by kernel_rfl
@[go_sem] theorem zv69 : azero Try.prog 69 = .agg [.int .i64 0, .int .i64 0, .int .i64 0, .int .i64 0, .int .i64 0, .int .i64 0, .int .i64 0] := by kernel_rfl
@[go_sem] theorem fi69x0 : fieldT Try.prog 69 0 = some (0, 1) := by kernel_rfl
@[go_sem] theorem fi69x1 : fieldT Try.prog 69 1 = some (1, 1) := by kernel_rfl
@[go_sem] theorem fi69x2 : fieldT Try.prog 69 2 = some (2, 1) := by kernel_rfl
@[go_sem] theorem fi69x3 : fieldT Try.prog 69 3 = some (3, 1) := by kernel_rfl
@[go_sem] theorem fi69x4 : fieldT Try.prog 69 4 = some (4, 1) := by kernel_rfl
@[go_sem] theorem fi69x5 : fieldT Try.prog 69 5 = some (5, 1) := by kernel_rfl
@[go_sem] theorem fi69x6 : fieldT Try.prog 69 6 = some (6, 1) := by kernel_rfl
@[go_sem] theorem pl69 : placesOf Try.prog 69 = some [(0, 1), (1, 1), (2, 1), (3, 1), (4, 1), (5, 1), (6, 1)] := by kernel_rfl
@[go_sem] theorem eo69 : eqOffs Try.prog 69 = some [(0, false), (1, false), (2, false), (3, false), (4, false), (5, false), (6, false)] := by kernel_rfl
@[go_sem] theorem ok75 : okT Try.prog 75 = true := by kernel_rfl
@[go_sem] theorem sz75 : szOf Try.prog 75 = 1 := by kernel_rfl
@[go_sem] theorem by75 : bytesOf Try.prog 75 = 8 := by kernel_rfl
@[go_sem] theorem ag75 : aggT Try.prog 75 = false := by kernel_rfl
@[go_sem] theorem un75 : Program.underlying Try.prog 75 = some (.map 3 25) := by kernel_rfl
@[go_sem] theorem ke75 : keyT Try.prog 75 = some 25 := by kernel_rfl
@[go_sem] theorem zs75 : (zeroV Try.prog 75).isSome = true := by kernel_rfl
@[go_sem] theorem zc75 : azeroCells Try.prog 75 = [.nilm] := by kernel_rfl
@[go_sem] theorem zv75 : azero Try.prog 75 = .nilm := by kernel_rfl
@[go_sem] theorem ok76 : okT Try.prog 76 = true := by kernel_rfl
@[go_sem] theorem sz76 : szOf Try.prog 76 = 1 := by kernel_rfl
@[go_sem] theorem by76 : bytesOf Try.prog 76 = 8 := by kernel_rfl
@[go_sem] theorem ag76 : aggT Try.prog 76 = false := by kernel_rfl
@[go_sem] theorem un76 : Program.underlying Try.prog 76 = some (.map 3 4) := by kernel_rfl
@[go_sem] theorem ke76 : keyT Try.prog 76 = some 4 := by kernel_rfl
@[go_sem] theorem zs76 : (zeroV Try.prog 76).isSome = true := by kernel_rfl
@[go_sem] theorem zc76 : azeroCells Try.prog 76 = [.nilm] := by kernel_rfl
@[go_sem] theorem zv76 : azero Try.prog 76 = .nilm := by kernel_rfl
@[go_sem] theorem ok80 : okT Try.prog 80 = true := by kernel_rfl
@[go_sem] theorem sz80 : szOf Try.prog 80 = 1 := by kernel_rfl
@[go_sem] theorem by80 : bytesOf Try.prog 80 = 8 := by kernel_rfl
@[go_sem] theorem ag80 : aggT Try.prog 80 = false := by kernel_rfl
@[go_sem] theorem zs80 : (zeroV Try.prog 80).isSome = true := by kernel_rfl
@[go_sem] theorem zc80 : azeroCells Try.prog 80 = [.any] := by kernel_rfl
@[go_sem] theorem zv80 : azero Try.prog 80 = .any := by kernel_rfl
@[go_sem] theorem ok82 : okT Try.prog 82 = true := by kernel_rfl
@[go_sem] theorem sz82 : szOf Try.prog 82 = 1 := by kernel_rfl
@[go_sem] theorem by82 : bytesOf Try.prog 82 = 24 := by kernel_rfl
@[go_sem] theorem ag82 : aggT Try.prog 82 = false := by kernel_rfl
@[go_sem] theorem un82 : Program.underlying Try.prog 82 = some (.slice 55) := by kernel_rfl
@[go_sem] theorem el82 : elemT Try.prog 82 = some 55 := by kernel_rfl
@[go_sem] theorem zs82 : (zeroV Try.prog 82).isSome = true := by kernel_rfl
@[go_sem] theorem zc82 : azeroCells Try.prog 82 = [.nils] := by kernel_rfl
@[go_sem] theorem zv82 : azero Try.prog 82 = .nils := by kernel_rfl
@[go_sem] theorem ok84 : okT Try.prog 84 = true := by kernel_rfl
@[go_sem] theorem sz84 : szOf Try.prog 84 = 1 := by kernel_rfl
@[go_sem] theorem by84 : bytesOf Try.prog 84 = 8 := by kernel_rfl
@[go_sem] theorem ag84 : aggT Try.prog 84 = false := by kernel_rfl
@[go_sem] theorem un84 : Program.underlying Try.prog 84 = some (.map 3 87) := by kernel_rfl
@[go_sem] theorem ke84 : keyT Try.prog 84 = some 87 := by kernel_rfl
@[go_sem] theorem zs84 : (zeroV Try.prog 84).isSome = true := by kernel_rfl
@[go_sem] theorem zc84 : azeroCells Try.prog 84 = [.nilm] := by kernel_rfl
@[go_sem] theorem zv84 : azero Try.prog 84 = .nilm := by kernel_rfl
@[go_sem] theorem ok87 : okT Try.prog 87 = true := by kernel_rfl
@[go_sem] theorem sz87 : szOf Try.prog 87 = 2 := by kernel_rfl
@[go_sem] theorem by87 : bytesOf Try.prog 87 = 16 := by kernel_rfl
@[go_sem] theorem ag87 : aggT Try.prog 87 = true := by kernel_rfl
@[go_sem] theorem zs87 : (zeroV Try.prog 87).isSome = true := by kernel_rfl
@[go_sem] theorem zc87 : azeroCells Try.prog 87 = [.int .i64 0, .int .i64 0] := by kernel_rfl
@[go_sem] theorem zv87 : azero Try.prog 87 = .agg [.int .i64 0, .int .i64 0] := by kernel_rfl
@[go_sem] theorem fi87x0 : fieldT Try.prog 87 0 = some (0, 1) := by kernel_rfl
@[go_sem] theorem fi87x1 : fieldT Try.prog 87 1 = some (1, 1) := by kernel_rfl
@[go_sem] theorem pl87 : placesOf Try.prog 87 = some [(0, 1), (1, 1)] := by kernel_rfl
@[go_sem] theorem eo87 : eqOffs Try.prog 87 = some [(0, false), (1, false)] := by kernel_rfl
@[go_sem] theorem ok90 : okT Try.prog 90 = true := by kernel_rfl
@[go_sem] theorem sz90 : szOf Try.prog 90 = 1 := by kernel_rfl
@[go_sem] theorem by90 : bytesOf Try.prog 90 = 8 := by kernel_rfl
@[go_sem] theorem ag90 : aggT Try.prog 90 = false := by kernel_rfl
@[go_sem] theorem zs90 : (zeroV Try.prog 90).isSome = true := by kernel_rfl
@[go_sem] theorem zc90 : azeroCells Try.prog 90 = [.any] := by kernel_rfl
@[go_sem] theorem zv90 : azero Try.prog 90 = .any := by kernel_rfl
@[go_sem] theorem ok91 : okT Try.prog 91 = true := by kernel_rfl
@[go_sem] theorem sz91 : szOf Try.prog 91 = 1 := by kernel_rfl
@[go_sem] theorem by91 : bytesOf Try.prog 91 = 8 := by kernel_rfl
@[go_sem] theorem ag91 : aggT Try.prog 91 = false := by kernel_rfl
@[go_sem] theorem zs91 : (zeroV Try.prog 91).isSome = true := by kernel_rfl
@[go_sem] theorem zc91 : azeroCells Try.prog 91 = [.any] := by kernel_rfl
@[go_sem] theorem zv91 : azero Try.prog 91 = .any := by kernel_rfl
@[go_sem] theorem ok92 : okT Try.prog 92 = true := by kernel_rfl
@[go_sem] theorem sz92 : szOf Try.prog 92 = 1 := by kernel_rfl
@[go_sem] theorem by92 : bytesOf Try.prog 92 = 24 := by kernel_rfl
@[go_sem] theorem ag92 : aggT Try.prog 92 = false := by kernel_rfl
@[go_sem] theorem un92 : Program.underlying Try.prog 92 = some (.slice 95) := by kernel_rfl
@[go_sem] theorem el92 : elemT Try.prog 92 = some 95 := by kernel_rfl
@[go_sem] theorem zs92 : (zeroV Try.prog 92).isSome = true := by kernel_rfl
@[go_sem] theorem zc92 : azeroCells Try.prog 92 = [.nils] := by kernel_rfl
@[go_sem] theorem zv92 : azero Try.prog 92 = .nils := by kernel_rfl
@[go_sem] theorem ok95 : okT Try.prog 95 = true := by kernel_rfl
@[go_sem] theorem sz95 : szOf Try.prog 95 = 4 := by kernel_rfl
@[go_sem] theorem by95 : bytesOf Try.prog 95 = 32 := by kernel_rfl
@[go_sem] theorem ag95 : aggT Try.prog 95 = true := by kernel_rfl
@[go_sem] theorem zs95 : (zeroV Try.prog 95).isSome = true := by kernel_rfl
@[go_sem] theorem zc95 : azeroCells Try.prog 95 = [.int .i64 0, .int .i64 0, .int .i64 0, .bool false] := by kernel_rfl
@[go_sem] theorem zv95 : azero Try.prog 95 = .agg [.int .i64 0, .int .i64 0, .int .i64 0, .bool false] := by kernel_rfl
@[go_sem] theorem fi95x0 : fieldT Try.prog 95 0 = some (0, 1) := by kernel_rfl
@[go_sem] theorem fi95x1 : fieldT Try.prog 95 1 = some (1, 1) := by kernel_rfl
@[go_sem] theorem fi95x2 : fieldT Try.prog 95 2 = some (2, 1) := by kernel_rfl
@[go_sem] theorem fi95x3 : fieldT Try.prog 95 3 = some (3, 1) := by kernel_rfl
@[go_sem] theorem pl95 : placesOf Try.prog 95 = some [(0, 1), (1, 1), (2, 1), (3, 1)] := by kernel_rfl
@[go_sem] theorem eo95 : eqOffs Try.prog 95 = some [(0, false), (1, false), (2, false), (3, true)] := by kernel_rfl
@[go_sem] theorem ok109 : okT Try.prog 109 = true := by kernel_rfl
@[go_sem] theorem sz109 : szOf Try.prog 109 = 1 := by kernel_rfl
@[go_sem] theorem by109 : bytesOf Try.prog 109 = 8 := by kernel_rfl
@[go_sem] theorem ag109 : aggT Try.prog 109 = false := by kernel_rfl
@[go_sem] theorem un109 : Program.underlying Try.prog 109 = some (.int .u64) := by kernel_rfl
@[go_sem] theorem zs109 : (zeroV Try.prog 109).isSome = true := by kernel_rfl
@[go_sem] theorem zc109 : azeroCells Try.prog 109 = [.int .u64 0] := by kernel_rfl
@[go_sem] theorem zv109 : azero Try.prog 109 = .int .u64 0 := by kernel_rfl
@[go_sem] theorem ok111 : okT Try.prog 111 = true := by kernel_rfl
@[go_sem] theorem sz111 : szOf Try.prog 111 = 1 := by kernel_rfl
@[go_sem] theorem by111 : bytesOf Try.prog 111 = 8 := by kernel_rfl
@[go_sem] theorem ag111 : aggT Try.prog 111 = false := by kernel_rfl
@[go_sem] theorem un111 : Program.underlying Try.prog 111 = some (.int .i64) := by kernel_rfl
@[go_sem] theorem zs111 : (zeroV Try.prog 111).isSome = true := by kernel_rfl
@[go_sem] theorem zc111 : azeroCells Try.prog 111 = [.int .i64 0] := by kernel_rfl
@[go_sem] theorem zv111 : azero Try.prog 111 = .int .i64 0 := by kernel_rfl
@[go_sem] theorem ok119 : okT Try.prog 119 = true := by kernel_rfl
@[go_sem] theorem sz119 : szOf Try.prog 119 = 1 := by kernel_rfl
@[go_sem] theorem by119 : bytesOf Try.prog 119 = 4 := by kernel_rfl
@[go_sem] theorem ag119 : aggT Try.prog 119 = false := by kernel_rfl
@[go_sem] theorem un119 : Program.underlying Try.prog 119 = some (.int .u32) := by kernel_rfl
@[go_sem] theorem zs119 : (zeroV Try.prog 119).isSome = true := by kernel_rfl
@[go_sem] theorem zc119 : azeroCells Try.prog 119 = [.int .u32 0] := by kernel_rfl
@[go_sem] theorem zv119 : azero Try.prog 119 = .int .u32 0 := by kernel_rfl
@[go_sem] theorem ok121 : okT Try.prog 121 = true := by kernel_rfl
@[go_sem] theorem sz121 : szOf Try.prog 121 = 1 := by kernel_rfl
@[go_sem] theorem by121 : bytesOf Try.prog 121 = 8 := by kernel_rfl
@[go_sem] theorem ag121 : aggT Try.prog 121 = false := by kernel_rfl
@[go_sem] theorem un121 : Program.underlying Try.prog 121 = some (.int .u64) := by kernel_rfl
@[go_sem] theorem zs121 : (zeroV Try.prog 121).isSome = true := by kernel_rfl
@[go_sem] theorem zc121 : azeroCells Try.prog 121 = [.int .u64 0] := by kernel_rfl
@[go_sem] theorem zv121 : azero Try.prog 121 = .int .u64 0 := by kernel_rfl
@[go_sem] theorem ok122 : okT Try.prog 122 = true := by kernel_rfl
@[go_sem] theorem sz122 : szOf Try.prog 122 = 1 := by kernel_rfl
@[go_sem] theorem by122 : bytesOf Try.prog 122 = 8 := by kernel_rfl
@[go_sem] theorem ag122 : aggT Try.prog 122 = false := by kernel_rfl
@[go_sem] theorem un122 : Program.underlying Try.prog 122 = some (.int .u64) := by kernel_rfl
@[go_sem] theorem zs122 : (zeroV Try.prog 122).isSome = true := by kernel_rfl
@[go_sem] theorem zc122 : azeroCells Try.prog 122 = [.int .u64 0] := by kernel_rfl
@[go_sem] theorem zv122 : azero Try.prog 122 = .int .u64 0 := by kernel_rfl
@[go_sem] theorem ok126 : okT Try.prog 126 = true := by kernel_rfl
@[go_sem] theorem sz126 : szOf Try.prog 126 = 1 := by kernel_rfl
@[go_sem] theorem by126 : bytesOf Try.prog 126 = 8 := by kernel_rfl
@[go_sem] theorem ag126 : aggT Try.prog 126 = false := by kernel_rfl
@[go_sem] theorem zs126 : (zeroV Try.prog 126).isSome = true := by kernel_rfl
@[go_sem] theorem zc126 : azeroCells Try.prog 126 = [.any] := by kernel_rfl
@[go_sem] theorem zv126 : azero Try.prog 126 = .any := by kernel_rfl
@[go_sem] theorem ok128 : okT Try.prog 128 = true := by kernel_rfl
@[go_sem] theorem sz128 : szOf Try.prog 128 = 1 := by kernel_rfl
@[go_sem] theorem by128 : bytesOf Try.prog 128 = 8 := by kernel_rfl
@[go_sem] theorem ag128 : aggT Try.prog 128 = false := by kernel_rfl
@[go_sem] theorem zs128 : (zeroV Try.prog 128).isSome = true := by kernel_rfl
@[go_sem] theorem zc128 : azeroCells Try.prog 128 = [.any] := by kernel_rfl
@[go_sem] theorem zv128 : azero Try.prog 128 = .any := by kernel_rfl
end Go.Proofs.Ytnafejjdhdpanaa
