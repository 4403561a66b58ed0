/-
  A block of the call's own, known whole: what lies in it, whatever it is. Conditions: none.
-/
import Derived.Test.YtccpkkopniadiaaDoorMem
import Derived.Test.YtccpkkopniadiaaDoorTail
import Derived.Test.YtccpkkopniadiaaDoorApp
import Derived.Deep.WholeRow
namespace Go.Proofs.YtccpkkopniadiaaDoor
open Go.RowKit
set_option linter.unusedVariables false

/-- block g, of type t, holds these cells -/
def Blk (w : World) (g t : Nat) (l : List Value) : Prop := w.heap[g]? = some (.cells l.toArray t (0, 0))
section
variable {w w' : World} {g g' t k B : Nat} {l : List Value}
theorem Blk.lt (h : Blk w g t l) : g < w.heap.size := by
  rcases Nat.lt_or_ge g w.heap.size with h3 | h3
  · exact h3
  · unfold Blk at h
    rw [Array.getElem?_eq_none h3] at h
    cases h
theorem Blk.cell {v : Value} (h : Blk w g t l) (hx : l[k]? = some v) : w.cell? ⟨g, k, none⟩ = some v := by
  rw [cell_of_row w g k _ t _ h, List.getElem?_toArray, hx]
theorem Blk.froz (h : Blk w g t l) : w.frozen? ⟨g, k, none⟩ = false := by
  unfold Blk at h
  simp [World.frozen?, h]
theorem Blk.alloc (h : Blk w g t l) (o : Obj) : Blk (w.alloc o) g t l := by
  unfold Blk
  rw [Below.heap_alloc w o g h.lt]
  exact h
theorem Blk.below (h : Blk w g t l) (hb : Below B w w') (hg : g < B) : Blk w' g t l := by
  unfold Blk
  rw [hb.block g hg]
  exact h
theorem Blk.later (h : Blk w g t l) (hb : Below w.heap.size w w') : Blk w' g t l := h.below hb h.lt
theorem Blk.set (h : Blk w g t l) (x : Value) : Blk (w.setCell ⟨g, k, none⟩ x) g t (l.set k x) := by
  unfold Blk
  rw [setCell_eq_setRow w g k l.toArray t (0, 0) _ h, List.setIfInBounds_toArray]
  exact setRow_heap w g l.toArray _ t _ h
theorem Blk.other (h : Blk w g t l) (hg : g ≠ g') (v : Value) : Blk (w.setCell ⟨g', k, none⟩ v) g t l := by
  unfold Blk
  rw [Below.heap_setCell w _ v g hg]
  exact h
theorem Blk.new (w : World) (t : Nat) (l : List Value) : Blk (w.alloc (.cells l.toArray t)) w.heap.size t l := heap_alloc_last w _
theorem Blk.new' (w : World) (t : Nat) (a : Array Value) : Blk (w.alloc (.cells a t)) w.heap.size t a.toList := by
  have := heap_alloc_last w (.cells a t)
  simpa [Blk] using this
theorem blk_setRow_ne (w : World) (g : Nat) (cs : Array Value) (k : Nat) (h : k ≠ g) : (w.setRow g cs).heap[k]? = w.heap[k]? := by
  simp only [World.setRow, Array.getElem?_modify]
  simp [Ne.symm h]
theorem Blk.row (h : Blk w g t l) (l' : List Value) : Blk (w.setRow g l'.toArray) g t l' := setRow_heap w g l.toArray _ t _ h
theorem Blk.rowOther (h : Blk w g t l) (hg : g ≠ g') (cs : Array Value) : Blk (w.setRow g' cs) g t l := by
  unfold Blk
  rw [blk_setRow_ne w g' cs g hg]
  exact h
theorem Blk.drew (h : Blk w g t l) : Blk w.drew g t l := h
theorem below_row {B : Nat} {w w' : World} (h : Below B w w') {g : Nat} (hg : B ≤ g) (cs : Array Value) : Below B w (w'.setRow g cs) :=
  ⟨h.os, h.tape, h.output, by rw [setRow_size]; exact h.size, fun k hk => by rw [blk_setRow_ne _ _ _ _ (by omega)]; exact h.block k hk⟩
theorem Blk.grown {row : Option Nat} (h : Blk w g t l) (hg : w.grownBy w' row) (hne : some g ≠ row) : Blk w' g t l := by
  unfold Blk
  rw [hg.block g h.lt hne]
  exact h
/-- a whole array out of its block -/
theorem Blk.load {P : Program} {n : Nat} {e : TypeId} (h : Blk w g t l) (hu : P.underlying t = some (.array n e)) (hi : (P.info? t).map (·.size) = some l.length) : (loadVar t ⟨g, 0, none⟩).run P w = .ok (.agg l.toArray) w :=
  run_loadVar_row w g t t l.toArray (0, 0) _ h hu rfl (by simpa using hi)
end

theorem own_block {w : World} {base E size n k : Nat} {v : Value} {xs : List Value} (h : w.ownsRow base E size v n xs) (hk : v.ownBlock = some k) : base ≤ k := by
  rcases h.2 with ⟨rfl, _⟩ | ⟨g, cap, cur, rfl, hge, _⟩
  · simp [Value.ownBlock] at hk
  · simp [Value.ownBlock] at hk
    omega
/-- a block below a row's base is not the row's -/
theorem own_far {w : World} {base E size n g : Nat} {v : Value} {xs : List Value} (h : w.ownsRow base E size v n xs) (hg : g < base) : some g ≠ v.ownBlock := fun e => by
  have := own_block h e.symm
  omega
/-- an owned row behind a store elsewhere -/
theorem own_grown {w w' : World} {base E size n : Nat} {row : Option Nat} {v : Value} {xs : List Value} (h : w.ownsRow base E size v n xs) (hg : w.grownBy w' row) (hne : v.ownBlock = none ∨ v.ownBlock ≠ row) : w'.ownsRow base E size v n xs := World.ownsRow.kept h hg hne
theorem grown_set (w : World) (g k : Nat) (v : Value) : w.grownBy (w.setCell ⟨g, k, none⟩ v) (some g) := by
  refine ⟨rfl, rfl, rfl, ?_, fun i hi hne => ?_⟩
  · simp
  · rw [Below.heap_setCell w _ v i (fun e => hne (by rw [e]))]
theorem grown_row (w : World) (g : Nat) (cs : Array Value) : w.grownBy (w.setRow g cs) (some g) :=
  ⟨rfl, rfl, rfl, by rw [setRow_size]; exact Nat.le_refl _, fun i hi hne => blk_setRow_ne _ _ _ _ (fun e => hne (by rw [e]))⟩
/-- an owned row behind a store below its base -/
theorem own_set {w : World} {base E size n g : Nat} {v : Value} {xs : List Value} (h : w.ownsRow base E size v n xs) (hg : g < base) (k : Nat) (u : Value) : (w.setCell ⟨g, k, none⟩ u).ownsRow base E size v n xs :=
  own_grown h (grown_set w g k u) (.inr (own_far h hg).symm)

def icell (x : Int) : List Value := [.int .i64 x]
theorem icell_len : ∀ x, (icell x).length = 1 := fun _ => rfl
theorem icell_at (l : List Int) (k : Nat) : (l.flatMap icell)[k]? = (l[k]?).map (.int .i64) := by
  have : l.flatMap icell = l.map (.int .i64) := by
    induction l with
    | nil => rfl
    | cons x l ih => rw [List.flatMap_cons, ih]; rfl
  rw [this, List.getElem?_map]
theorem icell_set (l : List Int) (k : Nat) (x : Int) : (l.flatMap icell).set k (.int .i64 x) = (l.set k x).flatMap icell := by
  have : ∀ l : List Int, l.flatMap icell = l.map (.int .i64) := by
    intro l
    induction l with
    | nil => rfl
    | cons x l ih => rw [List.flatMap_cons, ih]; rfl
  rw [this, this, List.map_set]
theorem icell_size (l : List Int) : (l.flatMap icell).length = l.length := by rw [flat_len icell_len]; omega
theorem icell_one (l : List Int) : (l.flatMap icell).toArray.all (·.oneCell') = true := by
  rw [Array.all_eq_true_iff_forall_mem]
  intro v hv
  simp [icell] at hv
  obtain ⟨x, _, rfl⟩ := hv
  rfl
theorem icell_one' (l : List Int) : ∀ u ∈ l.flatMap icell, u.oneCell' = true := by
  intro v hv
  simp [icell] at hv
  obtain ⟨x, _, rfl⟩ := hv
  rfl

/-- an element of an array that lies in a slot, its elements of one cell -/
theorem run_index_one {P : Program} {t e : TypeId} {n k : Nat} {cs : Array Value} {v : Value} (hu : P.underlying t = some (.array n e)) (ha : ∀ w, (isAgg e).run P w = .ok false w) (hs : ∀ w, (sizeOf e).run P w = .ok 1 w) (hk : k < n) (hv : cs[k]? = some v) (w : World) :
    (Instr.index t (.agg cs) (.int .i64 (k : Int))).run P w = .ok v w := by
  have h1 : (0 : Int) ≤ (k : Int) ∧ (k : Int) < (n : Int) := by omega
  simp [Instr.index, asIntOf, run_underlying hu, h1, hs, part, ha, hv, Nat.not_le.2 hk]
end Go.Proofs.YtccpkkopniadiaaDoor
