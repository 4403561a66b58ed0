/-
  slices.SortFunc of elements of several cells over a row of the call's own, out of the library's contract over its own words. Conditions: none beyond each theorem's own premises.
-/
import Derived.Test.YtjopiepfjbnkbaaGreatDoorBase
import Derived.Shelf.SlSortCmp.WholeK
namespace Go.Proofs.YtjopiepfjbnkbaaGreatDoor
open Go.RowKit
set_option linter.unusedVariables false

theorem flatK_list {α : Type} [Inhabited α] (cells : α → List Value) (C : Nat) (hC : ∀ x, (cells x).length = C) (l : List α) : (Go.Sort.flatK cells C l.toArray).toList = l.flatMap cells := by
  refine List.ext_getElem? fun t => ?_
  by_cases ht : t < l.length * C
  · have hC0 : 0 < C := by
      rcases Nat.eq_zero_or_pos C with h | h
      · subst h; simp at ht
      · exact h
    have hi : t / C < l.length := (Nat.div_lt_iff_lt_mul hC0).2 ht
    have hm : t % C < C := Nat.mod_lt _ hC0
    have h1 := flat_get hC l (t / C) (t % C) _ (List.getElem?_eq_getElem hi) hm
    rw [show t / C * C + t % C = t by rw [Nat.mul_comm]; exact Nat.div_add_mod t C] at h1
    rw [h1, Array.getElem?_toList, Array.getElem?_eq_getElem (by rw [Go.Sort.size_flatK]; simpa using ht)]
    have h2 := Go.Sort.get_flatK cells C l.toArray t (by simpa using ht)
    rw [getElem!_pos _ t (by rw [Go.Sort.size_flatK]; simpa using ht)] at h2
    rw [h2, getElem!_pos _ (t / C) (by simpa using hi)]
    have h3 : t % C < (cells l[t / C]).length := by rw [hC]; exact hm
    rw [List.getElem?_eq_getElem h3]
    simp only [List.getElem_toArray]
    rw [getElem!_pos _ (t % C) h3]
  · rw [List.getElem?_eq_none (by rw [Array.length_toList, Go.Sort.size_flatK]; simpa using ht), List.getElem?_eq_none (by rw [flat_len hC]; omega)]
theorem putCells_take_id (cur F : Array Value) (h : F.size ≤ cur.size) : (Go.Sort.putCells id 0 F cur).toList.take F.size = F.toList := by
  refine List.ext_getElem? fun j => ?_
  rw [List.getElem?_take]
  by_cases hj : j < F.size
  · rw [if_pos hj, Array.getElem?_toList]
    unfold Go.Sort.putCells
    rw [Array.getElem?_mapIdx, Array.getElem?_eq_getElem (by omega), Array.getElem?_toList, Array.getElem?_eq_getElem hj]
    simp only [Option.map_some, Nat.zero_le, Nat.zero_add, hj, and_self, if_true, Nat.sub_zero, id]
    rw [getElem!_pos _ j hj]
  · rw [if_neg hj, List.getElem?_eq_none (by simpa using hj)]
/-- the premises at a row of the call's own -/
theorem holdsK_row {α : Type} [Inhabited α] (cells : α → List Value) (C : Nat) (hC : ∀ x, (cells x).length = C) {w0 w : World} {L : List It} {i E n c g : Nat} {l : List α} (H : Sep w0 w L) (hi : L[i]? = some (.row E C (.slice (some ⟨g, 0, none⟩) n c) n (l.flatMap cells))) (hl : l.length = n) (h0 : 0 < n) :
    Go.Sort.HoldsK cells C w g 0 l.toArray := by
  obtain ⟨g', e, hg, hat⟩ := H.rowAt i hi h0
  cases e
  intro j hj
  rw [Go.Sort.size_flatK] at hj
  rw [Nat.zero_add]
  refine ⟨?_, (hat j).2.1⟩
  have hj' : j < (Go.Sort.flatK cells C l.toArray).size := by rw [Go.Sort.size_flatK]; exact hj
  rw [getElem!_pos _ j hj']
  refine (hat j).1 _ ?_
  rw [← flatK_list cells C hC l, Array.getElem?_toList, Array.getElem?_eq_getElem hj']
  rfl
/-- behind the sort -/
theorem sorted_row {α : Type} [Inhabited α] (cells : α → List Value) (C : Nat) (hC : ∀ x, (cells x).length = C) (hC0 : 0 < C) {w0 w : World} {L : List It} {i E n c g : Nat} {l : List α} (H : Sep w0 w L) (hi : L[i]? = some (.row E C (.slice (some ⟨g, 0, none⟩) n c) n (l.flatMap cells))) (hl : l.length = n) (h0 : 0 < n)
    {d' : Array α} {m : Nat} {os : Array Obj} (hs : d'.size = n) : Sep w0 (Go.Proofs.sortWorldK cells C w g 0 m d' os) (L.set i (.row E C (.slice (some ⟨g, 0, none⟩) n c) n (d'.toList.flatMap cells))) := by
  obtain ⟨g', cap, cur, hv, hh, hnc, hcm, hsz, _⟩ := (H.rowHas i hi).2.resolve_left (fun h => by omega)
  cases hv
  have hgl : g < w.heap.size := (Array.getElem?_eq_some_iff.1 hh).1
  generalize hw : Go.Proofs.sortWorldK cells C w g 0 m d' os = w'
  have hheap : w'.heap = w.heap.modify g (Go.Sort.onCells (Go.Sort.putCells id 0 (Go.Sort.flatK cells C d'))) ++ os := by rw [← hw]; rfl
  have hblk : w'.heap[g]? = some (.cells (Go.Sort.putCells id 0 (Go.Sort.flatK cells C d') cur) E (0, 0)) := by
    rw [hheap, Array.getElem?_append_left (by simpa using hgl), Array.getElem?_modify, if_pos rfl, hh]
    rfl
  have hflat : (Go.Sort.flatK cells C d').toList = d'.toList.flatMap cells := flatK_list cells C hC d'.toList
  have hfs : (Go.Sort.flatK cells C d').size = n * C := by rw [Go.Sort.size_flatK, hs]
  refine H.step (i := i) (y := .row E C (.slice (some ⟨g, 0, none⟩) n (cap + 1)) n (d'.toList.flatMap cells)) hi ?_ ?_ (.inr (.inl rfl))
  · refine ⟨by rw [← hw]; rfl, by rw [← hw]; rfl, by rw [← hw]; rfl, by rw [hheap]; simp, fun k hk hne => ?_⟩
    rw [hheap, Array.getElem?_append_left (by simpa using hk), Array.getElem?_modify, if_neg (fun e => hne (by simp [It.row, rowBlk, e]))]
  · refine ⟨by rw [flat_len hC, Array.length_toList, hs], .inr ⟨g, cap, _, rfl, hblk, hnc, hcm, ?_, ?_⟩⟩
    · rw [← hsz]
      simp [Go.Sort.putCells]
    · rw [← hflat, ← hfs]
      exact putCells_take_id cur _ (by rw [hfs, hsz]; exact Nat.mul_le_mul_right _ hnc)
/-- what 'PermIn' and 'SortedIn' say of lists -/
theorem permIn_list {α : Type} [Inhabited α] {l : List α} {d' : Array α} (h : Go.Sort.PermIn 0 l.toArray.size l.toArray d') : d'.size = l.length ∧ d'.toList.Perm l := by
  obtain ⟨h1, _, h3⟩ := h
  have hs : d'.size = l.length := by simpa using h1
  refine ⟨hs, ?_⟩
  have e1 : (d'.extract 0 l.toArray.size) = d' := by rw [← h1, Array.extract_size]
  have e2 : (l.toArray.extract 0 l.toArray.size) = l.toArray := Array.extract_size
  rw [e1, e2] at h3
  exact h3
theorem sortedIn_list {α : Type} [Inhabited α] {lt : α → α → Bool} {n : Nat} {d' : Array α} (hs : d'.size = n) (h : Go.Sort.SortedIn lt 0 n d') : d'.toList.Pairwise (fun a b => lt b a = false) := by
  rw [List.pairwise_iff_getElem]
  intro i j hi hj hij
  have hi' : i < d'.size := by simpa using hi
  have hj' : j < d'.size := by simpa using hj
  have := h i j (Nat.zero_le _) hij (by omega)
  rw [getElem!_pos _ i hi', getElem!_pos _ j hj'] at this
  simpa using this
end Go.Proofs.YtjopiepfjbnkbaaGreatDoor
