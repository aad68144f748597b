import Derived.Test.YtciaimpdnjpajaaSkZ
import Derived.Test.YtciaimpdnjpajaaProg
import Derived.Shelf.SortM.Plain
import Derived.Shelf.SortM.SortNone
import Derived.Shelf.Slices.CompactI
set_option linter.all false
namespace Go.Proofs.Ytciaimpdnjpajaa
open Go Go.Ab Go.Shelf Go.RowKit Go.Sort
def Try.lsort_ren : Go.Shelf.Ren := ⟨fun | 5 => 38 | 7 => 44 | 8 => 45 | 10 => 46 | 11 => 47 | 12 => 48 | 13 => 49 | 14 => 50 | 15 => 51 | 16 => 52 | 17 => 53 | 18 => 54 | 19 => 55 | 20 => 56 | 30 => 57 | 31 => 58 | 32 => 59 | 33 => 60 | 34 => 61 | 35 => 62 | 40 => 63 | n => n, fun | 22 => 31 | 23 => 31 | 25 => 3 | 32 => 56 | 35 => 58 | 36 => 59 | 41 => 64 | 44 => 67 | 46 => 69 | 53 => 70 | 57 => 74 | 63 => 77 | 64 => 78 | n => n, fun | n => n⟩
theorem Try.lsort : SlLaysM.n5 Try.prog Try.lsort_ren := {
  mixed := by kernel_rfl
  f5 := ⟨Try.f38.name, by kernel_rfl, Try.func38.trans (congrArg some (by kernel_rfl))⟩
  f7 := ⟨Try.f44.name, by kernel_rfl, Try.func44.trans (congrArg some (by kernel_rfl))⟩
  f8 := Try.func45.trans (congrArg some (by kernel_rfl))
  f10 := ⟨Try.f46.name, by kernel_rfl, Try.func46.trans (congrArg some (by kernel_rfl))⟩
  f11 := ⟨Try.f47.name, by kernel_rfl, Try.func47.trans (congrArg some (by kernel_rfl))⟩
  f12 := ⟨Try.f48.name, by kernel_rfl, Try.func48.trans (congrArg some (by kernel_rfl))⟩
  f13 := ⟨Try.f49.name, by kernel_rfl, Try.func49.trans (congrArg some (by kernel_rfl))⟩
  f14 := ⟨Try.f50.name, by kernel_rfl, Try.func50.trans (congrArg some (by kernel_rfl))⟩
  f15 := ⟨Try.f51.name, by kernel_rfl, Try.func51.trans (congrArg some (by kernel_rfl))⟩
  f16 := ⟨Try.f52.name, by kernel_rfl, Try.func52.trans (congrArg some (by kernel_rfl))⟩
  f17 := ⟨Try.f53.name, by kernel_rfl, Try.func53.trans (congrArg some (by kernel_rfl))⟩
  f18 := ⟨Try.f54.name, by kernel_rfl, Try.func54.trans (congrArg some (by kernel_rfl))⟩
  f19 := Try.func55.trans (congrArg some (by kernel_rfl))
  f20 := Try.func56.trans (congrArg some (by kernel_rfl))
  f30 := ⟨Try.f57.name, by kernel_rfl, Try.func57.trans (congrArg some (by kernel_rfl))⟩
  f31 := Try.func58.trans (congrArg some (by kernel_rfl))
  f32 := Try.func59.trans (congrArg some (by kernel_rfl))
  f33 := ⟨Try.f60.name, by kernel_rfl, Try.func60.trans (congrArg some (by kernel_rfl))⟩
  f34 := ⟨Try.f61.name, by kernel_rfl, Try.func61.trans (congrArg some (by kernel_rfl))⟩
  f35 := ⟨Try.f62.name, by kernel_rfl, Try.func62.trans (congrArg some (by kernel_rfl))⟩
  f40 := ⟨Try.f63.name, by kernel_rfl, Try.func63.trans (congrArg some (by kernel_rfl))⟩
  t0 := Try.underlying0
  a0 := Try.isAgg0
  z0 := Try.sizeOf0
  v0 := Try.zeroValue0
  t3 := Try.underlying3
  a3 := Try.isAgg3
  z3 := Try.sizeOf3
  v3 := Try.zeroValue3
  t4 := Try.underlying4
  a4 := Try.isAgg4
  z4 := Try.sizeOf4
  v4 := Try.zeroValue4
  t5 := Try.underlying5
  a5 := Try.isAgg5
  z5 := Try.sizeOf5
  v5 := Try.zeroValue5
  t9 := Try.underlying9
  a9 := Try.isAgg9
  z9 := Try.sizeOf9
  v9 := Try.zeroValue9
  t22 := Try.underlying31
  a22 := Try.isAgg31
  z22 := Try.sizeOf31
  v22 := Try.zeroValue31
  t23 := Try.underlying31
  a23 := Try.isAgg31
  z23 := Try.sizeOf31
  v23 := Try.zeroValue31
  t25 := Try.underlying3
  a25 := Try.isAgg3
  z25 := Try.sizeOf3
  v25 := Try.zeroValue3
  t32 := Try.underlying56
  a32 := Try.isAgg56
  z32 := Try.sizeOf56
  v32 := Try.zeroValue56
  t35 := Try.underlying58
  a35 := Try.isAgg58
  z35 := Try.sizeOf58
  v35 := Try.zeroValue58
  t36 := Try.underlying59
  a36 := Try.isAgg59
  z36 := Try.sizeOf59
  v36 := Try.zeroValue59
  t41 := Try.underlying64
  a41 := Try.isAgg64
  z41 := Try.sizeOf64
  v41 := Try.zeroValue64
  t44 := Try.underlying67
  a44 := Try.isAgg67
  z44 := Try.sizeOf67
  v44 := Try.zeroValue67
  t46 := Try.underlying69
  a46 := Try.isAgg69
  z46 := Try.sizeOf69
  v46 := Try.zeroValue69
  t53 := Try.underlying70
  a53 := Try.isAgg70
  z53 := Try.sizeOf70
  v53 := Try.zeroValue70
  t57 := Try.underlying74
  a57 := Try.isAgg74
  z57 := Try.sizeOf74
  v57 := Try.zeroValue74
  t63 := Try.underlying77
  a63 := Try.isAgg77
  z63 := Try.sizeOf77
  v63 := Try.zeroValue77
  t64 := Try.underlying78
  a64 := Try.isAgg78
  z64 := Try.sizeOf78
  v64 := Try.zeroValue78
}
def Try.lcompact_ren : Go.Shelf.Ren := ⟨fun | 20 => 39 | n => n, fun | 22 => 31 | n => n, fun | n => n⟩
theorem Try.lcompact : Lays2.n20 Try.prog Try.lcompact_ren := {
  mixed := by kernel_rfl
  f20 := Try.func39.trans (congrArg some (by kernel_rfl))
  t0 := Try.underlying0
  a0 := Try.isAgg0
  z0 := Try.sizeOf0
  v0 := Try.zeroValue0
  t3 := Try.underlying3
  a3 := Try.isAgg3
  z3 := Try.sizeOf3
  v3 := Try.zeroValue3
  t4 := Try.underlying4
  a4 := Try.isAgg4
  z4 := Try.sizeOf4
  v4 := Try.zeroValue4
  t22 := Try.underlying31
  a22 := Try.isAgg31
  z22 := Try.sizeOf31
  v22 := Try.zeroValue31
  i3 := by kernel_rfl
}
theorem Try.sorts38 : SortsI Try.prog 38 := ⟨fun blk off cap zs w h1 h2 h3 => AnyM.slices_Sort_int Try.lsort blk off cap zs w h1 h2 h3, fun p cap w => AnyM.slices_Sort_int_none Try.lsort p cap w⟩
theorem Try.compacts39 : CompactsI Try.prog 39 := ⟨fun blk off cap zs w h1 h2 h3 => Any.slices_Compact_int Try.lcompact blk off cap zs w h1 h2 h3, fun a cap w => Any.slices_Compact_int_empty Try.lcompact a cap w⟩

end Go.Proofs.Ytciaimpdnjpajaa
