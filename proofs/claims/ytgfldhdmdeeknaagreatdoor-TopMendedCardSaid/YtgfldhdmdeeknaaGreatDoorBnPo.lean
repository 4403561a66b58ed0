/-
  What printing gives, and texts of operations one by one. Plain Lean. Conditions: none.
-/
import Derived.Test.YtgfldhdmdeeknaaGreatDoorBnL
namespace Go.Proofs.YtgfldhdmdeeknaaGreatDoor
open Go.RowKit Go.Shelf Go.Sort
set_option linter.unusedVariables false
namespace Bn
open So (Op.len Op.cells)

/-- operations of a machine's size -/
def OkO (o : So.Op) : Prop := o.nm.size ≤ 67108865 ∧ o.dt.size ≤ 67108865 ∧ -9223372036854775808 ≤ o.keep ∧ o.keep ≤ 9223372036854775807
def printR (l : List So.Op) : Value := if l.all lk = true then .tuple #[.string (bs (txt l)), .int .i64 0] else .tuple #[.string ⟨#[]⟩, .int .i64 2]
theorem txt_step {l : List So.Op} {k : Nat} {o : So.Op} (h : l[k]? = some o) : txt (l.take (k + 1)) = txt (l.take k) ++ (lt o ++ [10]) := by
  unfold txt
  rw [List.take_add_one, h, List.flatMap_append]
  simp
theorem txt_le (l : List So.Op) (k : Nat) : (txt (l.take k)).length ≤ (txt l).length := by
  have e : l = l.take k ++ l.drop k := (List.take_append_drop k l).symm
  have h : txt l = txt (l.take k) ++ txt (l.drop k) := by
    conv => lhs; rw [e]
    unfold txt
    rw [List.flatMap_append]
  rw [h, List.length_append]
  omega
theorem not_all {l : List So.Op} {k : Nat} {o : So.Op} (h : l[k]? = some o) (hk : lk o = false) : ¬ l.all lk = true := by
  intro e
  rw [List.all_eq_true] at e
  have := e o (List.mem_of_getElem? h)
  rw [hk] at this
  cases this
theorem all_take {l : List So.Op} {k : Nat} {o : So.Op} (h : l[k]? = some o) (hk : lk o = true) (ha : (l.take k).all lk = true) : (l.take (k + 1)).all lk = true := by
  rw [List.take_add_one, h, List.all_append, ha]
  simp [hk]
end Bn
end Go.Proofs.YtgfldhdmdeeknaaGreatDoor
