/-
  Whole arrays of integers in a block of their own.
-/
import Derived.Test.YtljdfkejhgaciaaMem
import Derived.Test.YtljdfkejhgaciaaTail
import Derived.Deep.WholeRow
namespace Go.Proofs.Ytljdfkejhgaciaa
open Go.RowKit
set_option linter.unusedVariables false

def arr (l : List Int) : Array Value := (l.map (Value.int .i64)).toArray
theorem arr_size (l : List Int) : (arr l).size = l.length := by simp [arr]
theorem arr_one (l : List Int) : (arr l).all (·.oneCell') = true := by
  rw [Array.all_eq_true_iff_forall_mem]
  intro v hv
  simp [arr] at hv
  obtain ⟨x, _, rfl⟩ := hv
  rfl
theorem arr_at (l : List Int) (k : Nat) : (arr l)[k]? = (l[k]?).map (Value.int .i64) := by simp [arr]
theorem arr_set (l : List Int) (k : Nat) (x : Int) : (arr l).setIfInBounds k (.int .i64 x) = arr (l.set k x) := by
  apply Array.ext_getElem?
  intro i
  rw [Array.getElem?_setIfInBounds, arr_at, arr_at, List.getElem?_set, arr_size]
  by_cases h : k = i
  · subst h
    by_cases h2 : k < l.length <;> simp [h2]
  · simp [h]
/-- block g holds these numbers -/
def Ints (w : World) (g t : Nat) (l : List Int) : Prop := w.heap[g]? = some (.cells (arr l) t (0, 0))
theorem Ints.lt {w : World} {g t : Nat} {l : List Int} (h : Ints w g t l) : g < w.heap.size := by
  rcases Nat.lt_or_ge g w.heap.size with h3 | h3
  · exact h3
  · unfold Ints at h
    rw [Array.getElem?_eq_none h3] at h
    cases h
theorem Ints.cell {w : World} {g t k : Nat} {l : List Int} {x : Int} (h : Ints w g t l) (hx : l[k]? = some x) : w.cell? ⟨g, k, none⟩ = some (.int .i64 x) := by
  rw [cell_of_row w g k _ t _ h, arr_at, hx]
  rfl
theorem Ints.froz {w : World} {g t k : Nat} {l : List Int} (h : Ints w g t l) : w.frozen? ⟨g, k, none⟩ = false := by
  unfold Ints at h
  simp [World.frozen?, h]
theorem Ints.alloc {w : World} {g t : Nat} {l : List Int} (h : Ints w g t l) (o : Obj) : Ints (w.alloc o) g t l := by
  unfold Ints
  rw [Below.heap_alloc w o g h.lt]
  exact h
theorem Ints.below {w w' : World} {g t B : Nat} {l : List Int} (h : Ints w g t l) (hb : Below B w w') (hg : g < B) : Ints w' g t l := by
  unfold Ints
  rw [hb.block g hg]
  exact h
theorem Ints.later {w w' : World} {g t : Nat} {l : List Int} (h : Ints w g t l) (hb : Below w.heap.size w w') : Ints w' g t l := h.below hb h.lt
theorem Ints.set {w : World} {g t k : Nat} {l : List Int} (h : Ints w g t l) (x : Int) : Ints (w.setCell ⟨g, k, none⟩ (.int .i64 x)) g t (l.set k x) := by
  unfold Ints
  rw [setCell_eq_setRow w g k (arr l) t (0, 0) _ h, ← arr_set]
  exact setRow_heap w g (arr l) _ t _ h
theorem Ints.other {w : World} {g g' t k : Nat} {l : List Int} (h : Ints w g t l) (hg : g ≠ g') (v : Value) : Ints (w.setCell ⟨g', k, none⟩ v) g t l := by
  unfold Ints
  rw [Below.heap_setCell w _ v g hg]
  exact h
theorem Ints.new (w : World) (t : Nat) (l : List Int) : Ints (w.alloc (.cells (arr l) t)) w.heap.size t l := heap_alloc_last w _
theorem heap_setRow_ne (w : World) (g : Nat) (cs : Array Value) (k : Nat) (h : k ≠ g) : (w.setRow g cs).heap[k]? = w.heap[k]? := by
  simp only [World.setRow, Array.getElem?_modify]
  simp [Ne.symm h]
theorem Ints.row {w : World} {g t : Nat} {l : List Int} (h : Ints w g t l) (l' : List Int) : Ints (w.setRow g (arr l')) g t l' := setRow_heap w g (arr l) _ t _ h
theorem Ints.rowOther {w : World} {g g' t : Nat} {l : List Int} (h : Ints w g t l) (hg : g ≠ g') (cs : Array Value) : Ints (w.setRow g' cs) g t l := by
  unfold Ints
  rw [heap_setRow_ne w g' cs g hg]
  exact h
theorem below_setRow {B : Nat} {w w' : World} (h : Below B w w') {g : Nat} (hg : B ≤ g) (cs : Array Value) : Below B w (w'.setRow g cs) :=
  ⟨h.os, h.tape, h.output, by rw [setRow_size]; exact h.size, fun k hk => by rw [heap_setRow_ne _ _ _ _ (by omega)]; exact h.block k hk⟩
theorem quiet_load {P : Program} {ops : Array Oper} {C : World → Prop} {Q : Act → Prop} {rest : List Oper} {o : Oper} {a : Act} (hg : o.guard = none) (ty : TypeId) (x : Operand) (ho : o.op = .load ty x) (v : Value)
    (hx : ∀ w, C w → (Instr.loadAt ty (a.eval x)).run P w = .ok v w) (h : wpQuiet P ops C Q rest (a.put o.dst v)) : wpQuiet P ops C Q (o :: rest) a := by
  unfold wpQuiet
  rw [if_pos (by simp [Region.wanted, hg])]
  refine ⟨v, fun w hw => ?_, h⟩
  unfold Oper.quietAt execOp
  simp only [ho, Sem.run_bind, hx w hw, Result.andThen_ok, Sem.run_pure]
  exact ⟨rfl, rfl⟩
/-- a 'Below' at the block that is turned, and no more -/
theorem below_at {g : Nat} {w w' : World} (h : Below w.heap.size w w') (hg : g < w.heap.size) (v : Value) (k : Nat) : Below g w (w'.setCell ⟨g, k, none⟩ v) := (h.mono (Nat.le_of_lt hg)).setCell (Nat.le_refl _) v
end Go.Proofs.Ytljdfkejhgaciaa
