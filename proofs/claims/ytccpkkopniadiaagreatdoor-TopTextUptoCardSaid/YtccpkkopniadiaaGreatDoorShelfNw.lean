/-
  The library's contract of (*strings.Builder).WriteString laid at this program's numbers. Conditions: none.
-/
import Derived.Test.YtccpkkopniadiaaGreatDoorRows
import Derived.Shelf.Strings.BuilderK
namespace Go.Proofs.YtccpkkopniadiaaGreatDoor
open Go.Shelf
def Tryz.bWrite_ren : Ren := ⟨fun | 166 => 25 | 240 => 45 | 276 => 66 | n => n, fun | 0 => 0 | 3 => 3 | 4 => 4 | 9 => 9 | 20 => 20 | 37 => 40 | 5 => 5 | 70 => 58 | 72 => 60 | 75 => 64 | 80 => 67 | 164 => 113 | n => n, fun n => n⟩
set_option maxRecDepth 100000 in
theorem Tryz.bWrite : Go.Proofs.Lays.n166 Tryz.prog Tryz.bWrite_ren := {
  mixed := by kernel_rfl
  f166 := Tryz.func25.trans (congrArg some (by kernel_rfl))
  f240 := Tryz.func45.trans (congrArg some (by kernel_rfl))
  f276 := Tryz.func66.trans (congrArg some (by kernel_rfl))
  t0 := Tryz.underlying0
  a0 := Tryz.isAgg0
  z0 := Tryz.sizeOf0
  v0 := Tryz.zeroValue0
  t3 := Tryz.underlying3
  a3 := Tryz.isAgg3
  z3 := Tryz.sizeOf3
  v3 := Tryz.zeroValue3
  t4 := Tryz.underlying4
  a4 := Tryz.isAgg4
  z4 := Tryz.sizeOf4
  v4 := Tryz.zeroValue4
  t9 := Tryz.underlying9
  a9 := Tryz.isAgg9
  z9 := Tryz.sizeOf9
  v9 := Tryz.zeroValue9
  t20 := Tryz.underlying20
  a20 := Tryz.isAgg20
  z20 := Tryz.sizeOf20
  v20 := Tryz.zeroValue20
  t37 := Tryz.underlying40
  a37 := Tryz.isAgg40
  z37 := Tryz.sizeOf40
  v37 := Tryz.zeroValue40
  t70 := Tryz.underlying58
  a70 := Tryz.isAgg58
  z70 := Tryz.sizeOf58
  v70 := Tryz.zeroValue58
  t72 := Tryz.underlying60
  a72 := Tryz.isAgg60
  z72 := Tryz.sizeOf60
  v72 := Tryz.zeroValue60
  t75 := Tryz.underlying64
  a75 := Tryz.isAgg64
  z75 := Tryz.sizeOf64
  v75 := Tryz.zeroValue64
  t164 := Tryz.underlying113
  a164 := Tryz.isAgg113
  z164 := Tryz.sizeOf113
  v164 := Tryz.zeroValue113 }
end Go.Proofs.YtccpkkopniadiaaGreatDoor
