/-
  The library's contract of (*strings.Builder).WriteString laid at this program's numbers. Conditions: none.
-/
import Derived.Test.YtccpkkopniadiaaDoorRows
import Derived.Shelf.Strings.BuilderK
namespace Go.Proofs.YtccpkkopniadiaaDoor
open Go.Shelf
def Tryd.bWrite_ren : Ren := ⟨fun | 166 => 10 | 240 => 19 | 276 => 32 | n => n, fun | 0 => 0 | 3 => 3 | 4 => 4 | 9 => 9 | 20 => 20 | 37 => 33 | 5 => 5 | 70 => 32 | 72 => 35 | 75 => 39 | 80 => 42 | 164 => 64 | n => n, fun n => n⟩
set_option maxRecDepth 100000 in
theorem Tryd.bWrite : Go.Proofs.Lays.n166 Tryd.prog Tryd.bWrite_ren := {
  mixed := by kernel_rfl
  f166 := Tryd.func10.trans (congrArg some (by kernel_rfl))
  f240 := Tryd.func19.trans (congrArg some (by kernel_rfl))
  f276 := Tryd.func32.trans (congrArg some (by kernel_rfl))
  t0 := Tryd.underlying0
  a0 := Tryd.isAgg0
  z0 := Tryd.sizeOf0
  v0 := Tryd.zeroValue0
  t3 := Tryd.underlying3
  a3 := Tryd.isAgg3
  z3 := Tryd.sizeOf3
  v3 := Tryd.zeroValue3
  t4 := Tryd.underlying4
  a4 := Tryd.isAgg4
  z4 := Tryd.sizeOf4
  v4 := Tryd.zeroValue4
  t9 := Tryd.underlying9
  a9 := Tryd.isAgg9
  z9 := Tryd.sizeOf9
  v9 := Tryd.zeroValue9
  t20 := Tryd.underlying20
  a20 := Tryd.isAgg20
  z20 := Tryd.sizeOf20
  v20 := Tryd.zeroValue20
  t37 := Tryd.underlying33
  a37 := Tryd.isAgg33
  z37 := Tryd.sizeOf33
  v37 := Tryd.zeroValue33
  t70 := Tryd.underlying32
  a70 := Tryd.isAgg32
  z70 := Tryd.sizeOf32
  v70 := Tryd.zeroValue32
  t72 := Tryd.underlying35
  a72 := Tryd.isAgg35
  z72 := Tryd.sizeOf35
  v72 := Tryd.zeroValue35
  t75 := Tryd.underlying39
  a75 := Tryd.isAgg39
  z75 := Tryd.sizeOf39
  v75 := Tryd.zeroValue39
  t164 := Tryd.underlying64
  a164 := Tryd.isAgg64
  z164 := Tryd.sizeOf64
  v164 := Tryd.zeroValue64 }
end Go.Proofs.YtccpkkopniadiaaDoor
