/-
  Arguments opened: a struct by value. Conditions: none beyond the theorem's own premises.
-/
import Derived.Test.YtjopiepfjbnkbaaGreatDoorArgs
namespace Go.Proofs.YtjopiepfjbnkbaaGreatDoor
open Go.ChangeShapes Go.WideShapes Go.ChangeAt Go.RowKit
theorem agg_of {P : Program} {w : World} {r : Reach} {base : Nat} {t : TypeId} {fs : Array Field} {v : Value} {l : List Value} (ht : P.underlying t = some (.struct fs)) (h : Value.okWide P w r base t v) (hv : v.cells.toList = l) : v = .agg l.toArray := by
  obtain ⟨cs, rfl, _⟩ := okWide_struct ht h
  subst hv
  simp [Value.cells]
end Go.Proofs.YtjopiepfjbnkbaaGreatDoor
