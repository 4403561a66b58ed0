/-
  The library's contracts laid at this program's numbers (ShelfD). Conditions: none.
-/
import Derived.Test.YtelgalhkggnkbaaRows
import Derived.Shelf.Strings.IndexAnyAll
import Derived.Shelf.Strings.Runes
import Derived.Shelf.Small.Strs
import Derived.Ground.NamesProg
namespace Go.Proofs.Ytelgalhkggnkbaa
open Go.Shelf
def Try.idxAny_ren : Go.Shelf.Ren := ⟨fun | 153 => 26 | 152 => 29 | 226 => 30 | 227 => 31 | 228 => 32 | 137 => 35 | 119 => 36 | 224 => 37 | 225 => 38 | 217 => 39 | 266 => 40 | n => n, fun | 9 => 9 | 3 => 3 | 4 => 4 | 5 => 5 | 21 => 21 | 117 => 54 | 116 => 53 | 0 => 0 | 46 => 49 | 124 => 61 | n => n, fun | n => n⟩
theorem Try.idxAny : Go.Proofs.Lays.n153 Try.prog Try.idxAny_ren := {
  mixed := by kernel_rfl
  f119 := Try.func36.trans (congrArg some (by kernel_rfl))
  f137 := Try.func35.trans (congrArg some (by kernel_rfl))
  f152 := Try.func29.trans (congrArg some (by kernel_rfl))
  f153 := Try.func26.trans (congrArg some (by kernel_rfl))
  f217 := Try.func39.trans (congrArg some (by kernel_rfl))
  f224 := Try.func37.trans (congrArg some (by kernel_rfl))
  f225 := Try.func38.trans (congrArg some (by kernel_rfl))
  f226 := Try.func30.trans (congrArg some (by kernel_rfl))
  f227 := Try.func31.trans (congrArg some (by kernel_rfl))
  f228 := Try.func32.trans (congrArg some (by kernel_rfl))
  f266 := Try.func40.trans (congrArg some (by kernel_rfl))
  t0 := Try.underlying0
  a0 := Try.isAgg0
  z0 := Try.sizeOf0
  v0 := Try.zeroValue0
  t3 := Try.underlying3
  a3 := Try.isAgg3
  z3 := Try.sizeOf3
  v3 := Try.zeroValue3
  t4 := Try.underlying4
  a4 := Try.isAgg4
  z4 := Try.sizeOf4
  v4 := Try.zeroValue4
  t5 := Try.underlying5
  a5 := Try.isAgg5
  z5 := Try.sizeOf5
  v5 := Try.zeroValue5
  t9 := Try.underlying9
  a9 := Try.isAgg9
  z9 := Try.sizeOf9
  v9 := Try.zeroValue9
  t21 := Try.underlying21
  a21 := Try.isAgg21
  z21 := Try.sizeOf21
  v21 := Try.zeroValue21
  t46 := Try.underlying49
  a46 := Try.isAgg49
  z46 := Try.sizeOf49
  v46 := Try.zeroValue49
  t116 := Try.underlying53
  a116 := Try.isAgg53
  z116 := Try.sizeOf53
  t117 := Try.underlying54
  a117 := Try.isAgg54
  z117 := Try.sizeOf54
  v117 := Try.zeroValue54
  t124 := Try.underlying61
  a124 := Try.isAgg61
  z124 := Try.sizeOf61
  v124 := Try.zeroValue61 }
def Try.strCmp_ren : Go.Shelf.Ren := ⟨fun | 106 => 23 | 213 => 27 | 265 => 33 | n => n, fun | 9 => 9 | 3 => 3 | n => n, fun | n => n⟩
theorem Try.strCmp : Go.Proofs.Lays.n106 Try.prog Try.strCmp_ren := {
  mixed := by kernel_rfl
  f106 := Try.func23.trans (congrArg some (by kernel_rfl))
  f213 := Try.func27.trans (congrArg some (by kernel_rfl))
  f265 := Try.func33.trans (congrArg some (by kernel_rfl))
  t3 := Try.underlying3
  a3 := Try.isAgg3
  z3 := Try.sizeOf3
  v3 := Try.zeroValue3
  t9 := Try.underlying9
  a9 := Try.isAgg9
  z9 := Try.sizeOf9
  v9 := Try.zeroValue9 }
end Go.Proofs.Ytelgalhkggnkbaa
