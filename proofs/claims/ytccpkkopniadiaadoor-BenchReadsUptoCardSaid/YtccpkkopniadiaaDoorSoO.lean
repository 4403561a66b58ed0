/-
  Operations, answers and kept files as cells. Conditions: none.
-/
import Derived.Test.YtccpkkopniadiaaDoorSep
namespace Go.Proofs.YtccpkkopniadiaaDoor
set_option linter.unusedVariables false
namespace So

/-- an operation -/
structure Op where
  kind : Int
  nm : ByteArray
  dt : ByteArray
  keep : Int
def Op.cells (o : Op) : List Value := [.int .i64 o.kind, .string o.nm, .string o.dt, .int .i64 o.keep]
theorem Op.len (o : Op) : o.cells.length = 4 := rfl
theorem Op.one (l : List Op) : ∀ u ∈ l.flatMap Op.cells, u.oneCell' = true := by
  intro u hu
  rw [List.mem_flatMap] at hu
  obtain ⟨x, _, hu⟩ := hu
  simp only [Op.cells, List.mem_cons, List.not_mem_nil, or_false] at hu
  rcases hu with rfl | rfl | rfl | rfl <;> rfl
/-- an answer -/
structure An where
  er : Int
  dt : ByteArray
def An.cells (a : An) : List Value := [.int .i64 a.er, .string a.dt]
theorem An.len (a : An) : a.cells.length = 2 := rfl
/-- what is kept -/
structure Kp where
  nm : ByteArray
  dt : ByteArray
def Kp.cells (a : Kp) : List Value := [.string a.nm, .string a.dt]
theorem Kp.len (a : Kp) : a.cells.length = 2 := rfl

end So
end Go.Proofs.YtccpkkopniadiaaDoor
