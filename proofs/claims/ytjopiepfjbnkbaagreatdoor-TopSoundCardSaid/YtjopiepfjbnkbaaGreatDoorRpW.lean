/-
  Walk of the comparison in runs.Put and of the sort by it. Conditions: none beyond each theorem's own premises.
-/
import Derived.Test.YtjopiepfjbnkbaaGreatDoorRunsB
import Derived.Test.YtjopiepfjbnkbaaGreatDoorSrtF
import Derived.Test.YtjopiepfjbnkbaaGreatDoorShelfF
namespace Go.Proofs.YtjopiepfjbnkbaaGreatDoor
open Go.RowKit Go.Sort Go.Lib
set_option linter.unusedVariables false
namespace Runs
instance : Inhabited R := ⟨⟨0, 0, 0⟩⟩

theorem compare_any (a b : Int) (w : World) : Calls Tryz.prog 29 #[.int .i64 a, .int .i64 b] w fun e w' => e = .returned (.int .i64 (compareInt a b)) ∧ w' = w :=
  AnyG.cmp_Compare_int Tryz.cmpInt a b w
set_option maxHeartbeats 1000000 in
theorem put1_any (x y : R) (W : World) : Calls Tryz.prog 28 #[.agg #[.int .i64 x.at_, .int .i64 x.disk, .int .i64 x.many], .agg #[.int .i64 y.at_, .int .i64 y.disk, .int .i64 y.many]] W fun e w' => e = .returned (.int .i64 (compareInt x.at_ y.at_)) ∧ ∃ q os', w' = grow (W.drewN q) os' := by
  have hcon := fun W' => compare_any x.at_ y.at_ W'
  generalize compareInt x.at_ y.at_ = r at hcon ⊢
  go_enter Tryz.func28, Tryz.ntmps28
  go_wp2_with (go_at_call 29; refine (hcon _).mono ?_; rintro e w' ⟨rfl, rfl⟩)
  go_ret
  exact ⟨rfl, 0, _, by rw [alloc_eq_grow, alloc_eq_grow, grow_grow]; rfl⟩
theorem lt_at (x y : R) : ltOf (fun x y : R => compareInt x.at_ y.at_) x y = decide (x.at_ < y.at_) := by
  unfold ltOf compareInt
  by_cases h1 : x.at_ < y.at_
  · simp [h1]
  · by_cases h2 : y.at_ < x.at_ <;> simp [h1, h2]
theorem swo_at : SWO (ltOf fun x y : R => compareInt x.at_ y.at_) where
  irrefl x := by rw [lt_at]; simp
  trans x y z h1 h2 := by rw [lt_at] at *; simp at *; omega
  ntrans x y z h1 h2 := by rw [lt_at] at *; simp at *; omega
theorem put_sort (w0 w : World) (L : List It) (i n c g : Nat) (l : List R) (H : Sep w0 w L) (hi : L[i]? = some (.row 60 3 (.slice (some ⟨g, 0, none⟩) n c) n (l.flatMap R.cells))) (hl : l.length = n) (h0 : 0 < n) (hn : n < 4611686018427387904) :
    Calls Tryz.prog 27 #[.slice (some ⟨g, 0, none⟩) n c, .func (.func 28) #[] #[]] w (fun e w' => e = .returned (.tuple #[]) ∧ ∃ S : List R, S.Perm l ∧ S.Pairwise (fun a b => ¬ b.at_ < a.at_) ∧ Sep w0 w' (L.set i (.row 60 3 (.slice (some ⟨g, 0, none⟩) n c) n (S.flatMap R.cells)))) := by
  have hgl : g < w.heap.size := by
    obtain ⟨g', cap, cur, hv, hh, _⟩ := (H.rowHas i hi).2.resolve_left (fun h => by omega)
    cases hv
    exact (Array.getElem?_eq_some_iff.1 hh).1
  have hs : l.toArray.size = n := by simpa using hl
  have eg : ∀ args w, (callFunc 28 args).run Tryz.prog w = .ok (.enter 28 args) w := enters_of Tryz.func28 (by kernel_rfl) rfl
  have hcon := AnyQ.slices_SortFunc Tryz.sortRun 3 Tryz.isAgg60 Tryz.sizeOf60 R.cells R.len (fun x v hv => by simp [R.cells] at hv; rcases hv with rfl | rfl | rfl <;> rfl) (fun x y => compareInt x.at_ y.at_) swo_at 28 #[] g 0 c l.toArray w eg
    (fun _ _ _ _ x y => put1_any x y _) (holdsK_row R.cells 3 R.len H hi hl h0) hgl (by rw [hs]; exact hn)
  rw [hs] at hcon
  refine Calls.mono hcon ?_
  rintro e w' ⟨rfl, d', m, os, hp, hso, rfl⟩
  rw [← hs] at hp
  obtain ⟨h1, h2⟩ := permIn_list hp
  refine ⟨rfl, d'.toList, h2, ?_, sorted_row R.cells 3 R.len (by omega) H hi hl h0 (h1.trans hl)⟩
  refine (sortedIn_list (h1.trans hl) hso).imp fun {a b} h => ?_
  rw [lt_at] at h
  simpa using h
end Runs
end Go.Proofs.YtjopiepfjbnkbaaGreatDoor
