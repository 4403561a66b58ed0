/-
  The library's contracts laid at this program's numbers (ShelfD). Conditions: none.
-/
import Derived.Test.YtjopiepfjbnkbaaGreatDoorRows
import Derived.Shelf.Strings.IndexAnyAll
import Derived.Shelf.Strings.Runes
import Derived.Ground.NamesProg
namespace Go.Proofs.YtjopiepfjbnkbaaGreatDoor
open Go.Shelf
def Tryz.idxAny_ren : Go.Shelf.Ren := ⟨fun | 153 => 187 | 152 => 197 | 226 => 199 | 227 => 154 | 228 => 184 | 137 => 201 | 119 => 202 | 224 => 142 | 225 => 141 | 217 => 140 | 266 => 176 | n => n, fun | 9 => 9 | 3 => 3 | 4 => 4 | 5 => 5 | 21 => 21 | 117 => 253 | 116 => 252 | 0 => 0 | 46 => 144 | 124 => 256 | n => n, fun | n => n⟩
theorem Tryz.idxAny : Go.Proofs.Lays.n153 Tryz.prog Tryz.idxAny_ren := {
  mixed := by kernel_rfl
  f119 := Tryz.func202.trans (congrArg some (by kernel_rfl))
  f137 := Tryz.func201.trans (congrArg some (by kernel_rfl))
  f152 := Tryz.func197.trans (congrArg some (by kernel_rfl))
  f153 := Tryz.func187.trans (congrArg some (by kernel_rfl))
  f217 := Tryz.func140.trans (congrArg some (by kernel_rfl))
  f224 := Tryz.func142.trans (congrArg some (by kernel_rfl))
  f225 := Tryz.func141.trans (congrArg some (by kernel_rfl))
  f226 := Tryz.func199.trans (congrArg some (by kernel_rfl))
  f227 := Tryz.func154.trans (congrArg some (by kernel_rfl))
  f228 := Tryz.func184.trans (congrArg some (by kernel_rfl))
  f266 := Tryz.func176.trans (congrArg some (by kernel_rfl))
  t0 := Tryz.underlying0
  a0 := Tryz.isAgg0
  z0 := Tryz.sizeOf0
  v0 := Tryz.zeroValue0
  t3 := Tryz.underlying3
  a3 := Tryz.isAgg3
  z3 := Tryz.sizeOf3
  v3 := Tryz.zeroValue3
  t4 := Tryz.underlying4
  a4 := Tryz.isAgg4
  z4 := Tryz.sizeOf4
  v4 := Tryz.zeroValue4
  t5 := Tryz.underlying5
  a5 := Tryz.isAgg5
  z5 := Tryz.sizeOf5
  v5 := Tryz.zeroValue5
  t9 := Tryz.underlying9
  a9 := Tryz.isAgg9
  z9 := Tryz.sizeOf9
  v9 := Tryz.zeroValue9
  t21 := Tryz.underlying21
  a21 := Tryz.isAgg21
  z21 := Tryz.sizeOf21
  v21 := Tryz.zeroValue21
  t46 := Tryz.underlying144
  a46 := Tryz.isAgg144
  z46 := Tryz.sizeOf144
  v46 := Tryz.zeroValue144
  t116 := Tryz.underlying252
  a116 := Tryz.isAgg252
  z116 := Tryz.sizeOf252
  t117 := Tryz.underlying253
  a117 := Tryz.isAgg253
  z117 := Tryz.sizeOf253
  v117 := Tryz.zeroValue253
  t124 := Tryz.underlying256
  a124 := Tryz.isAgg256
  z124 := Tryz.sizeOf256
  v124 := Tryz.zeroValue256 }
end Go.Proofs.YtjopiepfjbnkbaaGreatDoor
