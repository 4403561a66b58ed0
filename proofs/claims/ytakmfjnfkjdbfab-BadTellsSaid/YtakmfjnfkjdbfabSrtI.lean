/-
  slices.Sort of integers over a row of the call's own. Conditions: none beyond the theorem's own premises.
-/
import Derived.Test.YtakmfjnfkjdbfabSlices
import Derived.Test.YtakmfjnfkjdbfabShelfB
namespace Go.Proofs.Ytakmfjnfkjdbfab
open Go.RowKit
set_option linter.unusedVariables false

theorem putCells_take (cur : Array Value) (d : List Int) (h : d.length ≤ cur.size) : (Go.Sort.putCells (Value.int .i64) 0 d.toArray cur).toList.take d.length = d.flatMap icell := by
  refine List.ext_getElem? fun j => ?_
  rw [icell_at, List.getElem?_take]
  by_cases hj : j < d.length
  · rw [if_pos hj, Array.getElem?_toList]
    unfold Go.Sort.putCells
    rw [Array.getElem?_mapIdx, Array.getElem?_eq_getElem (by omega), List.getElem?_eq_getElem hj]
    simp only [Option.map_some, Nat.zero_le, Nat.zero_add, List.size_toArray, hj, and_self, if_true, Nat.sub_zero]
    congr 2
    rw [getElem!_pos _ j (by simpa using hj)]
    simp
  · rw [if_neg hj, List.getElem?_eq_none (by omega)]
    rfl
set_option maxHeartbeats 800000 in
theorem sort_any (w0 w : World) (L : List It) (A : Option Addr) (n c : Nat) (l : List Int) (H : Sep w0 w (.row 3 1 (.slice A n c) n (l.flatMap icell) :: L)) (hl : l.length = n) (h0 : 0 < n) (hn : n < 4611686018427387904) :
    Calls Try.prog 39 #[.slice A n c] w (fun e w' => e = .returned (.tuple #[]) ∧ Sep w0 w' (.row 3 1 (.slice A n c) n ((l.mergeSort fun x y => decide (x ≤ y)).flatMap icell) :: L)) := by
  subst hl
  obtain ⟨g, rfl, hg, hat⟩ := H.rowAt 0 rfl h0
  obtain ⟨g', cap, cur, hv, hh, hnc, hcm, hsz, _⟩ := (H.rowHas 0 rfl).2.resolve_left (fun h => by omega)
  cases hv
  have hgl : g < w.heap.size := (Array.getElem?_eq_some_iff.1 hh).1
  have hc := Any.slices_Sort_int Try.lsort g 0 (cap + 1) l w (fun j hj => by
    have hj' : j < l.length := by simpa using hj
    refine ⟨?_, by rw [Nat.zero_add]; exact (hat j).2.1⟩
    rw [Nat.zero_add]
    have h1 := (hat j).1 (.int .i64 (l[j]'hj')) (by rw [icell_at, List.getElem?_eq_getElem hj']; rfl)
    rw [h1, getElem!_pos _ j hj]
    simp) hgl hn
  refine hc.mono fun e w' ⟨he, q, os, hw⟩ => ⟨he, ?_⟩
  have hsl : (l.mergeSort fun x y => decide (x ≤ y)).length = l.length := List.length_mergeSort _
  generalize hd : (l.mergeSort fun x y => decide (x ≤ y)) = d at *
  have hheap : w'.heap = w.heap.modify g (Go.Sort.onCells (Go.Sort.putCells (Value.int .i64) 0 d.toArray)) ++ os := by rw [hw]; rfl
  have hblk : w'.heap[g]? = some (.cells (Go.Sort.putCells (Value.int .i64) 0 d.toArray cur) 3 (0, 0)) := by
    rw [hheap, Array.getElem?_append_left (by simpa using hgl), Array.getElem?_modify, if_pos rfl, hh]
    rfl
  refine H.step (i := 0) (y := .row 3 1 (.slice (some ⟨g, 0, none⟩) l.length (cap + 1)) l.length (d.flatMap icell)) rfl ?_ ?_ (.inr (.inl rfl))
  · refine ⟨by rw [hw]; rfl, by rw [hw]; rfl, by rw [hw]; rfl, by rw [hheap]; simp, fun k hk hne => ?_⟩
    rw [hheap, Array.getElem?_append_left (by simpa using hk), Array.getElem?_modify, if_neg (fun e => hne (by simp [It.row, rowBlk, e]))]
  · refine ⟨by rw [icell_size, hsl, Nat.mul_one], .inr ⟨g, cap, _, rfl, hblk, hnc, hcm, ?_, ?_⟩⟩
    · rw [← hsz]
      simp [Go.Sort.putCells]
    · rw [Nat.mul_one, ← hsl]
      exact putCells_take cur d (by rw [hsl, hsz, Nat.mul_one]; exact hnc)
end Go.Proofs.Ytakmfjnfkjdbfab
