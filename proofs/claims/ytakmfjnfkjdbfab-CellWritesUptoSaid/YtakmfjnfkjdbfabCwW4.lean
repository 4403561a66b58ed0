/-
  slices.Repeat at count 0. Conditions: none beyond each theorem's own premises.
-/
import Derived.Test.YtakmfjnfkjdbfabCwW2
namespace Go.Proofs.Ytakmfjnfkjdbfab
open Go.RowKit
set_option linter.unusedVariables false
namespace Cw
set_option maxRecDepth 100000 in
set_option maxHeartbeats 1600000 in
theorem reps_bool0 (A : Option Addr) (c : Nat) (x : Value) (w : World) (hr : Rd w w.heap.size 1 A 1 [x]) : Calls Try.prog 15 #[.slice A 1 c, .int .i64 0] w (SliceRet w 4 1 0 []) := by
  have cM := Lib.hid (mul_any 1 0 (by omega) (by omega) w)
  obtain ⟨ti, hti, t0, t1, t2⟩ := info_parts Cell.bool_info
  have hmk : ∀ W, (Instr.makeSlice 39 (.int .i64 0) (.int .i64 0)).run Try.prog W = .ok (.slice (some ⟨W.heap.size, 0, none⟩) 0 0) (W.alloc (.cells #[] 4)) := fun W => by
    have := run_make (P := Try.prog) W 39 4 ti (Value.bool false) Try.underlying39 hti t0 .i64 .i64 0 0 (by omega) (Int.le_refl _) (by simp) (by omega)
    have h0 : madeCells (Value.bool false).cells 0 = #[] := Array.ext' (by rw [show (madeCells (Value.bool false).cells 0).toList = _ from toList_madeCells_one (Value.bool false) 0]; rfl)
    have h1 : (0 : Int).toNat = 0 := rfl
    rw [h1, Nat.zero_mul, h0] at this
    exact this
  have hcp : ∀ W ty dc sc b, (Builtin.copy_ #[39, 39] ty #[.slice b 0 dc, .slice A 1 sc]).run Try.prog W = .ok (.int .i64 0) W := fun W ty dc sc b => by
    have h := run_copy_none (P := Try.prog) W 39 39 ty 4 b A 0 dc 1 sc Try.underlying39 (by rw [hti]; simp [t1]) rfl
    simpa [goInt] using h
  go_enter Try.func15, Try.ntmps15
  go_wp2_with fail
  refine cM.out.mono ?_; rintro e w9 ⟨rfl, hw9⟩
  have hw8 := hw9.symm
  subst hw8
  have S1 : Hid (Sep w (w.alloc (.cells #[] 4)) [.row 4 1 (.slice (some ⟨w.heap.size, 0, none⟩) 0 0) 0 []]) := Lib.hid (by
    have := (Sep.nil_ w).newRow 4 1 0 [] rfl (by simp [maxLen])
    simpa using this)
  go_upto_region 8 with (at_builtin; refine wpList_copy_runI _ rfl _ _ 39 39 rfl _ _ rfl rfl (hcp _ _ _ _ _) ?_)
  generalize w.alloc (.cells #[] 4) = w1 at S1 ⊢
  generalize w.heap.size = g at S1 ⊢
  go_wp2
  go_loopg [8] 0 (fun q v10 wr => q = 0 ∧ v10 = .int .i64 0 ∧ Sep w wr [.row 4 1 (.slice (some ⟨g, 0, none⟩) 0 0) 0 []])
  case atStart => exact ⟨rfl, rfl, S1.out⟩
  case round =>
    obtain ⟨rfl, rfl, hs⟩ := hrel
    have HS := Lib.hid hs
    clear hs S1
    go_wp2
    go_ret
    exact ⟨_, 0, Nat.le_refl _, rfl, HS.out⟩
set_option maxRecDepth 100000 in
set_option maxHeartbeats 1600000 in
theorem reps_byte0 (A : Option Addr) (c : Nat) (x : Value) (w : World) (hr : Rd w w.heap.size 1 A 1 [x]) : Calls Try.prog 13 #[.slice A 1 c, .int .i64 0] w (SliceRet w 5 1 0 []) := by
  have cM := Lib.hid (mul_any 1 0 (by omega) (by omega) w)
  obtain ⟨ti, hti, t0, t1, t2⟩ := info_parts byte_info
  have hmk : ∀ W, (Instr.makeSlice 34 (.int .i64 0) (.int .i64 0)).run Try.prog W = .ok (.slice (some ⟨W.heap.size, 0, none⟩) 0 0) (W.alloc (.cells #[] 5)) := fun W => by
    have := run_make (P := Try.prog) W 34 5 ti (Value.int .u8 0) Try.underlying34 hti t0 .i64 .i64 0 0 (by omega) (Int.le_refl _) (by simp) (by omega)
    have h0 : madeCells (Value.int .u8 0).cells 0 = #[] := Array.ext' (by rw [show (madeCells (Value.int .u8 0).cells 0).toList = _ from toList_madeCells_one (Value.int .u8 0) 0]; rfl)
    have h1 : (0 : Int).toNat = 0 := rfl
    rw [h1, Nat.zero_mul, h0] at this
    exact this
  have hcp : ∀ W ty dc sc b, (Builtin.copy_ #[34, 34] ty #[.slice b 0 dc, .slice A 1 sc]).run Try.prog W = .ok (.int .i64 0) W := fun W ty dc sc b => by
    have h := run_copy_none (P := Try.prog) W 34 34 ty 5 b A 0 dc 1 sc Try.underlying34 (by rw [hti]; simp [t1]) rfl
    simpa [goInt] using h
  go_enter Try.func13, Try.ntmps13
  go_wp2_with fail
  refine cM.out.mono ?_; rintro e w9 ⟨rfl, hw9⟩
  have hw8 := hw9.symm
  subst hw8
  have S1 : Hid (Sep w (w.alloc (.cells #[] 5)) [.row 5 1 (.slice (some ⟨w.heap.size, 0, none⟩) 0 0) 0 []]) := Lib.hid (by
    have := (Sep.nil_ w).newRow 5 1 0 [] rfl (by simp [maxLen])
    simpa using this)
  go_upto_region 8 with (at_builtin; refine wpList_copy_runI _ rfl _ _ 34 34 rfl _ _ rfl rfl (hcp _ _ _ _ _) ?_)
  generalize w.alloc (.cells #[] 5) = w1 at S1 ⊢
  generalize w.heap.size = g at S1 ⊢
  go_wp2
  go_loopg [8] 0 (fun q v10 wr => q = 0 ∧ v10 = .int .i64 0 ∧ Sep w wr [.row 5 1 (.slice (some ⟨g, 0, none⟩) 0 0) 0 []])
  case atStart => exact ⟨rfl, rfl, S1.out⟩
  case round =>
    obtain ⟨rfl, rfl, hs⟩ := hrel
    have HS := Lib.hid hs
    clear hs S1
    go_wp2
    go_ret
    exact ⟨_, 0, Nat.le_refl _, rfl, HS.out⟩
end Cw
end Go.Proofs.Ytakmfjnfkjdbfab
