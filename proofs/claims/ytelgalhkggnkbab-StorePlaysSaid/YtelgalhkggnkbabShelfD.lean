/-
  The library's contracts laid at this program's numbers (ShelfD). Conditions: none.
-/
import Derived.Test.YtelgalhkggnkbabRows
import Derived.Shelf.Strings.IndexAnyAll
import Derived.Shelf.Strings.Runes
import Derived.Shelf.Small.Strs
import Derived.Ground.NamesProg
namespace Go.Proofs.Ytelgalhkggnkbab
open Go.Shelf
def Try.idxAny_ren : Go.Shelf.Ren := ⟨fun | 153 => 40 | 152 => 48 | 226 => 49 | 227 => 50 | 228 => 51 | 137 => 66 | 119 => 67 | 224 => 68 | 225 => 69 | 217 => 77 | 266 => 79 | n => n, fun | 9 => 9 | 3 => 3 | 4 => 4 | 5 => 5 | 21 => 21 | 117 => 91 | 116 => 90 | 0 => 0 | 46 => 81 | 124 => 109 | n => n, fun | n => n⟩
theorem Try.idxAny : Go.Proofs.Lays.n153 Try.prog Try.idxAny_ren := {
  mixed := by kernel_rfl
  f119 := Try.func67.trans (congrArg some (by kernel_rfl))
  f137 := Try.func66.trans (congrArg some (by kernel_rfl))
  f152 := Try.func48.trans (congrArg some (by kernel_rfl))
  f153 := Try.func40.trans (congrArg some (by kernel_rfl))
  f217 := Try.func77.trans (congrArg some (by kernel_rfl))
  f224 := Try.func68.trans (congrArg some (by kernel_rfl))
  f225 := Try.func69.trans (congrArg some (by kernel_rfl))
  f226 := Try.func49.trans (congrArg some (by kernel_rfl))
  f227 := Try.func50.trans (congrArg some (by kernel_rfl))
  f228 := Try.func51.trans (congrArg some (by kernel_rfl))
  f266 := Try.func79.trans (congrArg some (by kernel_rfl))
  t0 := Try.underlying0
  a0 := Try.isAgg0
  z0 := Try.sizeOf0
  v0 := Try.zeroValue0
  t3 := Try.underlying3
  a3 := Try.isAgg3
  z3 := Try.sizeOf3
  v3 := Try.zeroValue3
  t4 := Try.underlying4
  a4 := Try.isAgg4
  z4 := Try.sizeOf4
  v4 := Try.zeroValue4
  t5 := Try.underlying5
  a5 := Try.isAgg5
  z5 := Try.sizeOf5
  v5 := Try.zeroValue5
  t9 := Try.underlying9
  a9 := Try.isAgg9
  z9 := Try.sizeOf9
  v9 := Try.zeroValue9
  t21 := Try.underlying21
  a21 := Try.isAgg21
  z21 := Try.sizeOf21
  v21 := Try.zeroValue21
  t46 := Try.underlying81
  a46 := Try.isAgg81
  z46 := Try.sizeOf81
  v46 := Try.zeroValue81
  t116 := Try.underlying90
  a116 := Try.isAgg90
  z116 := Try.sizeOf90
  t117 := Try.underlying91
  a117 := Try.isAgg91
  z117 := Try.sizeOf91
  v117 := Try.zeroValue91
  t124 := Try.underlying109
  a124 := Try.isAgg109
  z124 := Try.sizeOf109
  v124 := Try.zeroValue109 }
def Try.strCmp_ren : Go.Shelf.Ren := ⟨fun | 106 => 31 | 213 => 41 | 265 => 52 | n => n, fun | 9 => 9 | 3 => 3 | n => n, fun | n => n⟩
theorem Try.strCmp : Go.Proofs.Lays.n106 Try.prog Try.strCmp_ren := {
  mixed := by kernel_rfl
  f106 := Try.func31.trans (congrArg some (by kernel_rfl))
  f213 := Try.func41.trans (congrArg some (by kernel_rfl))
  f265 := Try.func52.trans (congrArg some (by kernel_rfl))
  t3 := Try.underlying3
  a3 := Try.isAgg3
  z3 := Try.sizeOf3
  v3 := Try.zeroValue3
  t9 := Try.underlying9
  a9 := Try.isAgg9
  z9 := Try.sizeOf9
  v9 := Try.zeroValue9 }
end Go.Proofs.Ytelgalhkggnkbab
