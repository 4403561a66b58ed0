/-
  Walk of nand.New. Conditions: none.
-/
import Derived.Test.YtjopiepfjbnkbaaGreatDoorNdW
namespace Go.Proofs.YtjopiepfjbnkbaaGreatDoor
open Go.RowKit
set_option linter.unusedVariables false
namespace Nd
theorem make_blocks : ∃ M : List Value, M = new8.flatMap B.cells ∧ ∀ W, (Instr.makeSlice 86 (.int .i64 8) (.int .i64 8)).run Tryz.prog W = .ok (.slice (some ⟨W.heap.size, 0, none⟩) 8 8) (W.alloc (.cells M.toArray 95)) := by
  obtain ⟨ti, hti, t0, t1, t2⟩ := info_parts block_info
  refine ⟨_, rfl, fun W => ?_⟩
  have := run_make (P := Tryz.prog) W 86 95 ti (.agg #[.int .i64 0, .int .i64 0, .int .i64 0, .int .i64 0, .int .i64 0, .int .i64 0]) Tryz.underlying86 hti t0 .i64 .i64 8 8 (by omega) (Int.le_refl _) (by rw [t2]; decide) (by omega)
  rw [t1] at this
  rw [show (new8.flatMap B.cells).toArray = madeCells (Value.agg #[.int .i64 0, .int .i64 0, .int .i64 0, .int .i64 0, .int .i64 0, .int .i64 0]).cells (Int.toNat 8 * 6) by kernel_rfl]
  exact this
set_option maxHeartbeats 400000 in
theorem new_any (w : World) : Calls Tryz.prog 21 #[] w (SliceRet w 95 6 8 (new8.flatMap B.cells)) := by
  obtain ⟨M, hM, hmk⟩ := make_blocks
  have HM := Lib.hid hM
  clear hM
  go_enter Tryz.func21, Tryz.ntmps21
  go_wp2
  go_ret
  refine ⟨_, 8, Nat.le_refl _, rfl, ?_⟩
  rw [← HM.out]
  exact (Sep.nil_ w).newRow 95 6 8 M (by rw [HM.out]; rfl) (by simp [maxLen])

end Nd
end Go.Proofs.YtjopiepfjbnkbaaGreatDoor
