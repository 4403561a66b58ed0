/-
  Walk of remap.Play where the count of pages is none; walk of the reference's HPlay. Conditions: none.
-/
import Derived.Test.YtcndddjnlnigeaaRmpW5
namespace Go.Proofs.Ytcndddjnlnigeaa
open Go.RowKit Go.Shelf
set_option linter.unusedVariables false
namespace Rmp

set_option maxRecDepth 100000 in
set_option maxHeartbeats 1600000 in
theorem play_bad (pages : Int) (hpg : pages < 0 ∨ 4096 < pages) (A : Option Addr) (n c : Nat) (w : World) :
    Calls Try.prog 12 #[.int .i64 pages, .slice A n c] w (RRet w ⟨[], zero16, [], 2⟩) := by
  have FR : Hid (Blk ((w.alloc (.cells #[.int .i64 pages] 3)).alloc (.cells Z16 34)) (w.heap.size + 1) 34 (zero16.flatMap icell)) := Lib.hid (by
    have := Blk.new (w.alloc (.cells #[.int .i64 pages] 3)) 34 (zero16.flatMap icell)
    rwa [show (w.alloc (.cells #[.int .i64 pages] 3)).heap.size = w.heap.size + 1 by simp] at this)
  have hB0 : Below w.heap.size w ((w.alloc (.cells #[.int .i64 pages] 3)).alloc (.cells Z16 34)) := ((Below.refl _ _).alloc (Nat.le_refl _) _).alloc (by simp) _
  go_enter Try.func12, Try.ntmps12
  have hB3 := below_row hB0 (show w.heap.size ≤ w.heap.size + 1 by omega) (zero16.flatMap icell).toArray
  have hld := (FR.out.row (zero16.flatMap icell)).load Try.underlying34 (size16 rfl)
  by_cases h1 : pages < 0
  · go_wp2_with (refine wpList_store_row rfl 34 (.tmp 5) (.tmp 22) rfl (w.heap.size + 1) (zero16.flatMap icell).toArray rfl rfl 34 Z16 FR.out (size16' rfl) (same16 rfl rfl) (icell_one zero16) ?_)
    refine bodyPost_ret (v := .tuple #[.slice none 0 0, rowV zero16, .slice none 0 0, .int .i64 2]) ?_ rfl ?_
    · simp [results, Try.results12, asAddr, rowV]
      first | rw [hld] | erw [hld]
      rfl
    · exact ⟨_, none, 0, rfl, own_none, Rd.nil_, hB3⟩
  · have h2 : 4096 < pages := by omega
    clear hpg
    go_wp2_with (refine wpList_store_row rfl 34 (.tmp 5) (.tmp 22) rfl (w.heap.size + 1) (zero16.flatMap icell).toArray rfl rfl 34 Z16 FR.out (size16' rfl) (same16 rfl rfl) (icell_one zero16) ?_)
    refine bodyPost_ret (v := .tuple #[.slice none 0 0, rowV zero16, .slice none 0 0, .int .i64 2]) ?_ rfl ?_
    · simp [results, Try.results12, asAddr, rowV]
      first | rw [hld] | erw [hld]
      rfl
    · exact ⟨_, none, 0, rfl, own_none, Rd.nil_, hB3⟩
end Rmp
end Go.Proofs.Ytcndddjnlnigeaa
