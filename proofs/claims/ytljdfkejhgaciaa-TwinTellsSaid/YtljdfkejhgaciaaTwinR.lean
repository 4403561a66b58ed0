/-
  Walks of twin.Read and twin.Write, by whole rows. Conditions: none.
-/
import Derived.Test.YtljdfkejhgaciaaTwinW
import Derived.Test.YtljdfkejhgaciaaBlk
namespace Go.Proofs.Ytljdfkejhgaciaa
open Go.RowKit
set_option linter.unusedVariables false
namespace Twin

theorem right_is (s : T) (b : Bool) (w : World) (h : rightB s = b) : Calls Try.prog 25 #[s.val] w (Ret w (.bool b)) := by subst h; exact right_any s w
theorem cur_is (s : T) (k : Int) (w : World) (h : cur s = k) : Calls Try.prog 36 #[s.val] w (Ret w (.int .i64 k)) := by subst h; exact cur_any s w
theorem cur_cases (s : T) : cur s = 0 ∨ cur s = 1 ∨ cur s = -1 := by
  unfold cur
  split
  · exact .inl rfl
  · split
    · exact .inr (.inl rfl)
    · exact .inr (.inr rfl)
theorem rightB_bd {s : T} (h : rightB s = true) : 0 ≤ s.c0 ∧ s.c0 ≤ 1099511627776 ∧ 0 ≤ s.c1 ∧ s.c1 ≤ 1099511627776 := by
  simp [rightB, okB] at h
  omega
theorem pairT {p : T × Int} {t : T} {e : Int} (h : p = (t, e)) : Value.tuple #[t.val, .int .i64 e] = Value.tuple #[p.1.val, .int .i64 p.2] := by rw [h]
theorem pairI {p : Int × Int} {a b : Int} (h : p = (a, b)) : Value.tuple #[.int .i64 a, .int .i64 b] = Value.tuple #[.int .i64 p.1, .int .i64 p.2] := by rw [h]

set_option maxHeartbeats 800000 in
theorem read_no (w0 : Bool) (c0 d0 : Int) (w1 : Bool) (c1 d1 : Int) (w : World) (hr : rightB ⟨w0, c0, d0, w1, c1, d1⟩ = false) :
    Calls Try.prog 22 #[.agg #[.bool w0, .int .i64 c0, .int .i64 d0, .bool w1, .int .i64 c1, .int .i64 d1]] w (Ret w (.tuple #[.int .i64 (readE ⟨w0, c0, d0, w1, c1, d1⟩).1, .int .i64 (readE ⟨w0, c0, d0, w1, c1, d1⟩).2])) := by
  have HE : Hid (readE ⟨w0, c0, d0, w1, c1, d1⟩ = (0, 1)) := Lib.hid (by rw [readE, hr]; rfl)
  have HS := Lib.hid (Blk.new w 46 [.bool w0, .int .i64 c0, .int .i64 d0, .bool w1, .int .i64 c1, .int .i64 d1])
  have hB0 : Below w.heap.size w (w.alloc (.cells #[.bool w0, .int .i64 c0, .int .i64 d0, .bool w1, .int .i64 c1, .int .i64 d1] 46)) := (Below.refl _ _).alloc (Nat.le_refl _) _
  go_enter Try.func22, Try.ntmps22
  go_wp2_with (refine wpList_load_row rfl 46 (.tmp 1) rfl w.heap.size rfl 46 #[.bool w0, .int .i64 c0, .int .i64 d0, .bool w1, .int .i64 c1, .int .i64 d1] (0, 0) (.array 2 45) HS.out Try.underlying46 rfl (by kernel_rfl) ?_)
  refine (right_is ⟨w0, c0, d0, w1, c1, d1⟩ _ _ hr).mono ?_; rintro e w1' ⟨rfl, hb1⟩
  go_wp2
  go_ret2
  exact Ret.mk (pairI HE.out) (hB0.trans (hb1.mono hB0.size))

set_option maxHeartbeats 800000 in
theorem read_none (w0 : Bool) (c0 d0 : Int) (w1 : Bool) (c1 d1 : Int) (w : World) (hr : rightB ⟨w0, c0, d0, w1, c1, d1⟩ = true) (hc : cur ⟨w0, c0, d0, w1, c1, d1⟩ = -1) :
    Calls Try.prog 22 #[.agg #[.bool w0, .int .i64 c0, .int .i64 d0, .bool w1, .int .i64 c1, .int .i64 d1]] w (Ret w (.tuple #[.int .i64 (readE ⟨w0, c0, d0, w1, c1, d1⟩).1, .int .i64 (readE ⟨w0, c0, d0, w1, c1, d1⟩).2])) := by
  have HE : Hid (readE ⟨w0, c0, d0, w1, c1, d1⟩ = (0, 3)) := Lib.hid (by rw [readE, hr]; rw [if_pos rfl, hc]; rfl)
  have HS := Lib.hid (Blk.new w 46 [.bool w0, .int .i64 c0, .int .i64 d0, .bool w1, .int .i64 c1, .int .i64 d1])
  have hB0 : Below w.heap.size w (w.alloc (.cells #[.bool w0, .int .i64 c0, .int .i64 d0, .bool w1, .int .i64 c1, .int .i64 d1] 46)) := (Below.refl _ _).alloc (Nat.le_refl _) _
  go_enter Try.func22, Try.ntmps22
  go_wp2_with (refine wpList_load_row rfl 46 (.tmp 1) rfl w.heap.size rfl 46 #[.bool w0, .int .i64 c0, .int .i64 d0, .bool w1, .int .i64 c1, .int .i64 d1] (0, 0) (.array 2 45) HS.out Try.underlying46 rfl (by kernel_rfl) ?_)
  refine (right_is ⟨w0, c0, d0, w1, c1, d1⟩ _ _ hr).mono ?_; rintro e w1' ⟨rfl, hb1⟩
  have HS1 := Lib.hid (HS.out.later hb1)
  have hB1 := hB0.trans (hb1.mono hB0.size)
  go_wp2_with (refine wpList_load_row rfl 46 (.tmp 1) rfl w.heap.size rfl 46 #[.bool w0, .int .i64 c0, .int .i64 d0, .bool w1, .int .i64 c1, .int .i64 d1] (0, 0) (.array 2 45) HS1.out Try.underlying46 rfl (by kernel_rfl) ?_)
  refine (cur_is ⟨w0, c0, d0, w1, c1, d1⟩ _ _ hc).mono ?_; rintro e w2 ⟨rfl, hb2⟩
  have HS2 := Lib.hid (HS1.out.later hb2)
  have u2 : w2.cell? ⟨w.heap.size, 2, none⟩ = some (.int .i64 d0) := HS2.out.cell rfl
  have u5 : w2.cell? ⟨w.heap.size, 5, none⟩ = some (.int .i64 d1) := HS2.out.cell rfl
  go_wp2
  go_ret2
  exact Ret.mk (pairI HE.out) (hB1.trans (hb2.mono hB1.size))

set_option maxHeartbeats 800000 in
theorem read_zero (w0 : Bool) (c0 d0 : Int) (w1 : Bool) (c1 d1 : Int) (w : World) (hr : rightB ⟨w0, c0, d0, w1, c1, d1⟩ = true) (hc : cur ⟨w0, c0, d0, w1, c1, d1⟩ = 0) :
    Calls Try.prog 22 #[.agg #[.bool w0, .int .i64 c0, .int .i64 d0, .bool w1, .int .i64 c1, .int .i64 d1]] w (Ret w (.tuple #[.int .i64 (readE ⟨w0, c0, d0, w1, c1, d1⟩).1, .int .i64 (readE ⟨w0, c0, d0, w1, c1, d1⟩).2])) := by
  have HE : Hid (readE ⟨w0, c0, d0, w1, c1, d1⟩ = (d0, 0)) := Lib.hid (by rw [readE, hr]; rw [if_pos rfl, hc, dataOf, hc]; rfl)
  have HS := Lib.hid (Blk.new w 46 [.bool w0, .int .i64 c0, .int .i64 d0, .bool w1, .int .i64 c1, .int .i64 d1])
  have hB0 : Below w.heap.size w (w.alloc (.cells #[.bool w0, .int .i64 c0, .int .i64 d0, .bool w1, .int .i64 c1, .int .i64 d1] 46)) := (Below.refl _ _).alloc (Nat.le_refl _) _
  go_enter Try.func22, Try.ntmps22
  go_wp2_with (refine wpList_load_row rfl 46 (.tmp 1) rfl w.heap.size rfl 46 #[.bool w0, .int .i64 c0, .int .i64 d0, .bool w1, .int .i64 c1, .int .i64 d1] (0, 0) (.array 2 45) HS.out Try.underlying46 rfl (by kernel_rfl) ?_)
  refine (right_is ⟨w0, c0, d0, w1, c1, d1⟩ _ _ hr).mono ?_; rintro e w1' ⟨rfl, hb1⟩
  have HS1 := Lib.hid (HS.out.later hb1)
  have hB1 := hB0.trans (hb1.mono hB0.size)
  go_wp2_with (refine wpList_load_row rfl 46 (.tmp 1) rfl w.heap.size rfl 46 #[.bool w0, .int .i64 c0, .int .i64 d0, .bool w1, .int .i64 c1, .int .i64 d1] (0, 0) (.array 2 45) HS1.out Try.underlying46 rfl (by kernel_rfl) ?_)
  refine (cur_is ⟨w0, c0, d0, w1, c1, d1⟩ _ _ hc).mono ?_; rintro e w2 ⟨rfl, hb2⟩
  have HS2 := Lib.hid (HS1.out.later hb2)
  have u2 : w2.cell? ⟨w.heap.size, 2, none⟩ = some (.int .i64 d0) := HS2.out.cell rfl
  have u5 : w2.cell? ⟨w.heap.size, 5, none⟩ = some (.int .i64 d1) := HS2.out.cell rfl
  go_wp2
  go_ret2
  exact Ret.mk (pairI HE.out) (hB1.trans (hb2.mono hB1.size))

set_option maxHeartbeats 800000 in
theorem read_one (w0 : Bool) (c0 d0 : Int) (w1 : Bool) (c1 d1 : Int) (w : World) (hr : rightB ⟨w0, c0, d0, w1, c1, d1⟩ = true) (hc : cur ⟨w0, c0, d0, w1, c1, d1⟩ = 1) :
    Calls Try.prog 22 #[.agg #[.bool w0, .int .i64 c0, .int .i64 d0, .bool w1, .int .i64 c1, .int .i64 d1]] w (Ret w (.tuple #[.int .i64 (readE ⟨w0, c0, d0, w1, c1, d1⟩).1, .int .i64 (readE ⟨w0, c0, d0, w1, c1, d1⟩).2])) := by
  have HE : Hid (readE ⟨w0, c0, d0, w1, c1, d1⟩ = (d1, 0)) := Lib.hid (by rw [readE, hr]; rw [if_pos rfl, hc, dataOf, hc]; rfl)
  have HS := Lib.hid (Blk.new w 46 [.bool w0, .int .i64 c0, .int .i64 d0, .bool w1, .int .i64 c1, .int .i64 d1])
  have hB0 : Below w.heap.size w (w.alloc (.cells #[.bool w0, .int .i64 c0, .int .i64 d0, .bool w1, .int .i64 c1, .int .i64 d1] 46)) := (Below.refl _ _).alloc (Nat.le_refl _) _
  go_enter Try.func22, Try.ntmps22
  go_wp2_with (refine wpList_load_row rfl 46 (.tmp 1) rfl w.heap.size rfl 46 #[.bool w0, .int .i64 c0, .int .i64 d0, .bool w1, .int .i64 c1, .int .i64 d1] (0, 0) (.array 2 45) HS.out Try.underlying46 rfl (by kernel_rfl) ?_)
  refine (right_is ⟨w0, c0, d0, w1, c1, d1⟩ _ _ hr).mono ?_; rintro e w1' ⟨rfl, hb1⟩
  have HS1 := Lib.hid (HS.out.later hb1)
  have hB1 := hB0.trans (hb1.mono hB0.size)
  go_wp2_with (refine wpList_load_row rfl 46 (.tmp 1) rfl w.heap.size rfl 46 #[.bool w0, .int .i64 c0, .int .i64 d0, .bool w1, .int .i64 c1, .int .i64 d1] (0, 0) (.array 2 45) HS1.out Try.underlying46 rfl (by kernel_rfl) ?_)
  refine (cur_is ⟨w0, c0, d0, w1, c1, d1⟩ _ _ hc).mono ?_; rintro e w2 ⟨rfl, hb2⟩
  have HS2 := Lib.hid (HS1.out.later hb2)
  have u2 : w2.cell? ⟨w.heap.size, 2, none⟩ = some (.int .i64 d0) := HS2.out.cell rfl
  have u5 : w2.cell? ⟨w.heap.size, 5, none⟩ = some (.int .i64 d1) := HS2.out.cell rfl
  go_wp2
  go_ret2
  exact Ret.mk (pairI HE.out) (hB1.trans (hb2.mono hB1.size))

theorem read_any (s : T) (w : World) : Calls Try.prog 22 #[s.val] w (Ret w (.tuple #[.int .i64 (readE s).1, .int .i64 (readE s).2])) := by
  obtain ⟨w0, c0, d0, w1, c1, d1⟩ := s
  cases hr : rightB ⟨w0, c0, d0, w1, c1, d1⟩ with
  | false => exact read_no w0 c0 d0 w1 c1 d1 w hr
  | true =>
    rcases cur_cases ⟨w0, c0, d0, w1, c1, d1⟩ with hc | hc | hc
    · exact read_zero w0 c0 d0 w1 c1 d1 w hr hc
    · exact read_one w0 c0 d0 w1 c1 d1 w hr hc
    · exact read_none w0 c0 d0 w1 c1 d1 w hr hc

set_option maxHeartbeats 1600000 in
theorem write_no (w0 : Bool) (c0 d0 : Int) (w1 : Bool) (c1 d1 : Int) (data : Int) (broken : Bool) (w : World) (hr : rightB ⟨w0, c0, d0, w1, c1, d1⟩ = false) (hcur : True) :
    Calls Try.prog 20 #[.agg #[.bool w0, .int .i64 c0, .int .i64 d0, .bool w1, .int .i64 c1, .int .i64 d1], .int .i64 data, .bool broken] w (Ret w (.tuple #[(writeE ⟨w0, c0, d0, w1, c1, d1⟩ data broken).1.val, .int .i64 (writeE ⟨w0, c0, d0, w1, c1, d1⟩ data broken).2])) := by
  have HE : Hid (writeE ⟨w0, c0, d0, w1, c1, d1⟩ data broken = (zero, 1)) := Lib.hid (by rw [writeE, hr]; rfl)
  have hc := Lib.hid hcur
  clear hcur
  have HS : Hid (Blk ((w.alloc (.cells #[.bool w0, .int .i64 c0, .int .i64 d0, .bool w1, .int .i64 c1, .int .i64 d1] 46)).alloc (.cells #[.bool false, .int .i64 0, .int .i64 0, .bool false, .int .i64 0, .int .i64 0] 46)) w.heap.size 46 [.bool w0, .int .i64 c0, .int .i64 d0, .bool w1, .int .i64 c1, .int .i64 d1]) := Lib.hid ((Blk.new w _ [.bool w0, .int .i64 c0, .int .i64 d0, .bool w1, .int .i64 c1, .int .i64 d1]).alloc _)
  have HZ : Hid (Blk ((w.alloc (.cells #[.bool w0, .int .i64 c0, .int .i64 d0, .bool w1, .int .i64 c1, .int .i64 d1] 46)).alloc (.cells #[.bool false, .int .i64 0, .int .i64 0, .bool false, .int .i64 0, .int .i64 0] 46)) (w.heap.size + 1) 46 [.bool false, .int .i64 0, .int .i64 0, .bool false, .int .i64 0, .int .i64 0]) := Lib.hid (by
    have := Blk.new (w.alloc (.cells #[.bool w0, .int .i64 c0, .int .i64 d0, .bool w1, .int .i64 c1, .int .i64 d1] 46)) 46 [.bool false, .int .i64 0, .int .i64 0, .bool false, .int .i64 0, .int .i64 0]
    rwa [show (w.alloc (.cells #[.bool w0, .int .i64 c0, .int .i64 d0, .bool w1, .int .i64 c1, .int .i64 d1] 46)).heap.size = w.heap.size + 1 by simp] at this)
  have hB0 : Below w.heap.size w ((w.alloc (.cells #[.bool w0, .int .i64 c0, .int .i64 d0, .bool w1, .int .i64 c1, .int .i64 d1] 46)).alloc (.cells #[.bool false, .int .i64 0, .int .i64 0, .bool false, .int .i64 0, .int .i64 0] 46)) := ((Below.refl _ _).alloc (Nat.le_refl _) _).alloc (by simp) _
  go_enter Try.func20, Try.ntmps20
  go_wp2_with (refine wpList_load_row rfl 46 (.tmp 3) rfl w.heap.size rfl 46 #[.bool w0, .int .i64 c0, .int .i64 d0, .bool w1, .int .i64 c1, .int .i64 d1] (0, 0) (.array 2 45) HS.out Try.underlying46 rfl (by kernel_rfl) ?_)
  refine (right_is ⟨w0, c0, d0, w1, c1, d1⟩ _ _ hr).mono ?_; rintro e w1' ⟨rfl, hb1⟩
  have HS1 := Lib.hid (HS.out.later hb1)
  have HZ1 := Lib.hid (HZ.out.later hb1)
  have hB1 := hB0.trans (hb1.mono hB0.size)
  clear HS HZ hb1 hB0
  go_wp2_with (refine wpList_store_row rfl 46 (.tmp 6) (.tmp 14) rfl (w.heap.size + 1) #[.bool false, .int .i64 0, .int .i64 0, .bool false, .int .i64 0, .int .i64 0] rfl rfl 46 #[.bool false, .int .i64 0, .int .i64 0, .bool false, .int .i64 0, .int .i64 0] HZ1.out (by kernel_rfl) rfl (by simp [Value.oneCell']) ?_)
  have hld := (HZ1.out.row [.bool false, .int .i64 0, .int .i64 0, .bool false, .int .i64 0, .int .i64 0]).load Try.underlying46 (by kernel_rfl)
  have hB9 := below_row hB1 (show w.heap.size ≤ w.heap.size + 1 by omega) [.bool false, .int .i64 0, .int .i64 0, .bool false, .int .i64 0, .int .i64 0].toArray
  refine bodyPost_ret (v := .tuple #[.agg [.bool false, .int .i64 0, .int .i64 0, .bool false, .int .i64 0, .int .i64 0].toArray, .int .i64 1]) ?_ rfl ?_
  · simp [results, Try.results20, asAddr, hld]
  · exact Ret.mk (pairT (t := zero) HE.out) hB9

set_option maxHeartbeats 1600000 in
theorem write_m_true (w0 : Bool) (c0 d0 : Int) (w1 : Bool) (c1 d1 : Int) (data : Int) (w : World) (hr : rightB ⟨w0, c0, d0, w1, c1, d1⟩ = true) (hcur : cur ⟨w0, c0, d0, w1, c1, d1⟩ = -1) (hf : (0 : Int) ≠ 1099511627776) :
    Calls Try.prog 20 #[.agg #[.bool w0, .int .i64 c0, .int .i64 d0, .bool w1, .int .i64 c1, .int .i64 d1], .int .i64 data, .bool true] w (Ret w (.tuple #[(writeE ⟨w0, c0, d0, w1, c1, d1⟩ data true).1.val, .int .i64 (writeE ⟨w0, c0, d0, w1, c1, d1⟩ data true).2])) := by
  have hcnt : countOf ⟨w0, c0, d0, w1, c1, d1⟩ = 0 := by rw [countOf, hcur]; rfl
  have hbd := rightB_bd hr
  simp only at hbd
  obtain ⟨b0, b1, b2, b3⟩ := hbd
  have HE : Hid (writeE ⟨w0, c0, d0, w1, c1, d1⟩ data true = (⟨false, 0, 0, w1, c1, d1⟩, 0)) := Lib.hid (by rw [writeE, hr, if_pos rfl, hcnt, if_neg hf, hcur]; rfl)
  have ht : ((0 : Int) == 1099511627776) = false := by decide
  clear hcnt hf
  have hc := Lib.hid hcur
  clear hcur
  have HS : Hid (Blk ((w.alloc (.cells #[.bool w0, .int .i64 c0, .int .i64 d0, .bool w1, .int .i64 c1, .int .i64 d1] 46)).alloc (.cells #[.bool false, .int .i64 0, .int .i64 0, .bool false, .int .i64 0, .int .i64 0] 46)) w.heap.size 46 [.bool w0, .int .i64 c0, .int .i64 d0, .bool w1, .int .i64 c1, .int .i64 d1]) := Lib.hid ((Blk.new w _ [.bool w0, .int .i64 c0, .int .i64 d0, .bool w1, .int .i64 c1, .int .i64 d1]).alloc _)
  have HZ : Hid (Blk ((w.alloc (.cells #[.bool w0, .int .i64 c0, .int .i64 d0, .bool w1, .int .i64 c1, .int .i64 d1] 46)).alloc (.cells #[.bool false, .int .i64 0, .int .i64 0, .bool false, .int .i64 0, .int .i64 0] 46)) (w.heap.size + 1) 46 [.bool false, .int .i64 0, .int .i64 0, .bool false, .int .i64 0, .int .i64 0]) := Lib.hid (by
    have := Blk.new (w.alloc (.cells #[.bool w0, .int .i64 c0, .int .i64 d0, .bool w1, .int .i64 c1, .int .i64 d1] 46)) 46 [.bool false, .int .i64 0, .int .i64 0, .bool false, .int .i64 0, .int .i64 0]
    rwa [show (w.alloc (.cells #[.bool w0, .int .i64 c0, .int .i64 d0, .bool w1, .int .i64 c1, .int .i64 d1] 46)).heap.size = w.heap.size + 1 by simp] at this)
  have hB0 : Below w.heap.size w ((w.alloc (.cells #[.bool w0, .int .i64 c0, .int .i64 d0, .bool w1, .int .i64 c1, .int .i64 d1] 46)).alloc (.cells #[.bool false, .int .i64 0, .int .i64 0, .bool false, .int .i64 0, .int .i64 0] 46)) := ((Below.refl _ _).alloc (Nat.le_refl _) _).alloc (by simp) _
  go_enter Try.func20, Try.ntmps20
  go_wp2_with (refine wpList_load_row rfl 46 (.tmp 3) rfl w.heap.size rfl 46 #[.bool w0, .int .i64 c0, .int .i64 d0, .bool w1, .int .i64 c1, .int .i64 d1] (0, 0) (.array 2 45) HS.out Try.underlying46 rfl (by kernel_rfl) ?_)
  refine (right_is ⟨w0, c0, d0, w1, c1, d1⟩ _ _ hr).mono ?_; rintro e w1' ⟨rfl, hb1⟩
  have HS1 := Lib.hid (HS.out.later hb1)
  have HZ1 := Lib.hid (HZ.out.later hb1)
  have hB1 := hB0.trans (hb1.mono hB0.size)
  clear HS HZ hb1 hB0
  go_wp2_with (refine wpList_load_row rfl 46 (.tmp 3) rfl w.heap.size rfl 46 #[.bool w0, .int .i64 c0, .int .i64 d0, .bool w1, .int .i64 c1, .int .i64 d1] (0, 0) (.array 2 45) HS1.out Try.underlying46 rfl (by kernel_rfl) ?_)
  refine (cur_is ⟨w0, c0, d0, w1, c1, d1⟩ _ _ hc.out).mono ?_; rintro e w2 ⟨rfl, hb2⟩
  have HS2 := Lib.hid (HS1.out.later hb2)
  have HZ2 := Lib.hid (HZ1.out.later hb2)
  have hB2 := hB1.trans (hb2.mono hB1.size)
  clear HS1 HZ1 hb2 hB1
  have HS3 := HS2
  have HZ3 := HZ2
  have hB3 := hB2
  clear HS2 HZ2 hB2
  have u0 : w2.cell? ⟨w.heap.size, 0, none⟩ = some (.bool w0) := HS3.out.cell rfl
  have u1 : w2.cell? ⟨w.heap.size, 1, none⟩ = some (.int .i64 c0) := HS3.out.cell rfl
  have u2 : w2.cell? ⟨w.heap.size, 2, none⟩ = some (.int .i64 d0) := HS3.out.cell rfl
  have f0 := HS3.out.froz (k := 0)
  have f1 := HS3.out.froz (k := 1)
  have f2 := HS3.out.froz (k := 2)
  go_upto_region 10 with (fail)
  have HS4 := Lib.hid (((HS3.out.set (k := 0) (.bool true)).set (k := 1) (.int .i64 1)).set (k := 2) (.int .i64 data))
  have HZ4 := Lib.hid (((HZ3.out.other (g' := w.heap.size) (k := 0) (by omega) (.bool true)).other (g' := w.heap.size) (k := 1) (by omega) (.int .i64 1)).other (g' := w.heap.size) (k := 2) (by omega) (.int .i64 data))
  have hB4 := ((hB3.setCell (p := ⟨w.heap.size, 0, none⟩) (Nat.le_refl _) (.bool true)).setCell (p := ⟨w.heap.size, 1, none⟩) (Nat.le_refl _) (.int .i64 1)).setCell (p := ⟨w.heap.size, 2, none⟩) (Nat.le_refl _) (.int .i64 data)
  clear u0 u1 u2 f0 f1 f2 HS3 HZ3 hB3
  generalize (((w2.setCell ⟨w.heap.size, 0, none⟩ (.bool true)).setCell ⟨w.heap.size, 1, none⟩ (.int .i64 1)).setCell ⟨w.heap.size, 2, none⟩ (.int .i64 data)) = w4 at HS4 HZ4 hB4 ⊢
  have u0 : w4.cell? ⟨w.heap.size, 0, none⟩ = some (.bool true) := HS4.out.cell rfl
  have u1 : w4.cell? ⟨w.heap.size, 1, none⟩ = some (.int .i64 1) := HS4.out.cell rfl
  have u2 : w4.cell? ⟨w.heap.size, 2, none⟩ = some (.int .i64 data) := HS4.out.cell rfl
  have f0 := HS4.out.froz (k := 0)
  have f1 := HS4.out.froz (k := 1)
  have f2 := HS4.out.froz (k := 2)
  go_upto_region 12 with (fail)
  have HS5 := Lib.hid (((HS4.out.set (k := 0) (.bool false)).set (k := 1) (.int .i64 0)).set (k := 2) (.int .i64 0))
  have HZ5 := Lib.hid (((HZ4.out.other (g' := w.heap.size) (k := 0) (by omega) (.bool false)).other (g' := w.heap.size) (k := 1) (by omega) (.int .i64 0)).other (g' := w.heap.size) (k := 2) (by omega) (.int .i64 0))
  have hB5 := ((hB4.setCell (p := ⟨w.heap.size, 0, none⟩) (Nat.le_refl _) (.bool false)).setCell (p := ⟨w.heap.size, 1, none⟩) (Nat.le_refl _) (.int .i64 0)).setCell (p := ⟨w.heap.size, 2, none⟩) (Nat.le_refl _) (.int .i64 0)
  clear u0 u1 u2 f0 f1 f2 HS4 HZ4 hB4
  generalize (((w4.setCell ⟨w.heap.size, 0, none⟩ (.bool false)).setCell ⟨w.heap.size, 1, none⟩ (.int .i64 0)).setCell ⟨w.heap.size, 2, none⟩ (.int .i64 0)) = w5 at HS5 HZ5 hB5 ⊢
  go_wp2_with (first
    | refine wpList_load_row rfl 46 (.tmp 3) rfl w.heap.size rfl 46 #[.bool false, .int .i64 0, .int .i64 0, .bool w1, .int .i64 c1, .int .i64 d1] (0, 0) (.array 2 45) HS5.out Try.underlying46 rfl (by kernel_rfl) ?_
    | refine wpList_store_row rfl 46 (.tmp 6) (.tmp 38) rfl (w.heap.size + 1) #[.bool false, .int .i64 0, .int .i64 0, .bool w1, .int .i64 c1, .int .i64 d1] rfl rfl 46 #[.bool false, .int .i64 0, .int .i64 0, .bool false, .int .i64 0, .int .i64 0] HZ5.out (by kernel_rfl) rfl (by simp [Value.oneCell']) ?_)
  have hld := (HZ5.out.row [.bool false, .int .i64 0, .int .i64 0, .bool w1, .int .i64 c1, .int .i64 d1]).load Try.underlying46 (by kernel_rfl)
  have hB9 := below_row hB5 (show w.heap.size ≤ w.heap.size + 1 by omega) [.bool false, .int .i64 0, .int .i64 0, .bool w1, .int .i64 c1, .int .i64 d1].toArray
  refine bodyPost_ret (v := .tuple #[.agg [.bool false, .int .i64 0, .int .i64 0, .bool w1, .int .i64 c1, .int .i64 d1].toArray, .int .i64 0]) ?_ rfl ?_
  · simp [results, Try.results20, asAddr, hld]
  · exact Ret.mk (pairT (t := ⟨false, 0, 0, w1, c1, d1⟩) HE.out) hB9

set_option maxHeartbeats 1600000 in
theorem write_m_false (w0 : Bool) (c0 d0 : Int) (w1 : Bool) (c1 d1 : Int) (data : Int) (w : World) (hr : rightB ⟨w0, c0, d0, w1, c1, d1⟩ = true) (hcur : cur ⟨w0, c0, d0, w1, c1, d1⟩ = -1) (hf : (0 : Int) ≠ 1099511627776) :
    Calls Try.prog 20 #[.agg #[.bool w0, .int .i64 c0, .int .i64 d0, .bool w1, .int .i64 c1, .int .i64 d1], .int .i64 data, .bool false] w (Ret w (.tuple #[(writeE ⟨w0, c0, d0, w1, c1, d1⟩ data false).1.val, .int .i64 (writeE ⟨w0, c0, d0, w1, c1, d1⟩ data false).2])) := by
  have hcnt : countOf ⟨w0, c0, d0, w1, c1, d1⟩ = 0 := by rw [countOf, hcur]; rfl
  have hbd := rightB_bd hr
  simp only at hbd
  obtain ⟨b0, b1, b2, b3⟩ := hbd
  have HE : Hid (writeE ⟨w0, c0, d0, w1, c1, d1⟩ data false = (⟨true, 1, data, w1, c1, d1⟩, 0)) := Lib.hid (by rw [writeE, hr, if_pos rfl, hcnt, if_neg hf, hcur]; rfl)
  have ht : ((0 : Int) == 1099511627776) = false := by decide
  clear hcnt hf
  have hc := Lib.hid hcur
  clear hcur
  have HS : Hid (Blk ((w.alloc (.cells #[.bool w0, .int .i64 c0, .int .i64 d0, .bool w1, .int .i64 c1, .int .i64 d1] 46)).alloc (.cells #[.bool false, .int .i64 0, .int .i64 0, .bool false, .int .i64 0, .int .i64 0] 46)) w.heap.size 46 [.bool w0, .int .i64 c0, .int .i64 d0, .bool w1, .int .i64 c1, .int .i64 d1]) := Lib.hid ((Blk.new w _ [.bool w0, .int .i64 c0, .int .i64 d0, .bool w1, .int .i64 c1, .int .i64 d1]).alloc _)
  have HZ : Hid (Blk ((w.alloc (.cells #[.bool w0, .int .i64 c0, .int .i64 d0, .bool w1, .int .i64 c1, .int .i64 d1] 46)).alloc (.cells #[.bool false, .int .i64 0, .int .i64 0, .bool false, .int .i64 0, .int .i64 0] 46)) (w.heap.size + 1) 46 [.bool false, .int .i64 0, .int .i64 0, .bool false, .int .i64 0, .int .i64 0]) := Lib.hid (by
    have := Blk.new (w.alloc (.cells #[.bool w0, .int .i64 c0, .int .i64 d0, .bool w1, .int .i64 c1, .int .i64 d1] 46)) 46 [.bool false, .int .i64 0, .int .i64 0, .bool false, .int .i64 0, .int .i64 0]
    rwa [show (w.alloc (.cells #[.bool w0, .int .i64 c0, .int .i64 d0, .bool w1, .int .i64 c1, .int .i64 d1] 46)).heap.size = w.heap.size + 1 by simp] at this)
  have hB0 : Below w.heap.size w ((w.alloc (.cells #[.bool w0, .int .i64 c0, .int .i64 d0, .bool w1, .int .i64 c1, .int .i64 d1] 46)).alloc (.cells #[.bool false, .int .i64 0, .int .i64 0, .bool false, .int .i64 0, .int .i64 0] 46)) := ((Below.refl _ _).alloc (Nat.le_refl _) _).alloc (by simp) _
  go_enter Try.func20, Try.ntmps20
  go_wp2_with (refine wpList_load_row rfl 46 (.tmp 3) rfl w.heap.size rfl 46 #[.bool w0, .int .i64 c0, .int .i64 d0, .bool w1, .int .i64 c1, .int .i64 d1] (0, 0) (.array 2 45) HS.out Try.underlying46 rfl (by kernel_rfl) ?_)
  refine (right_is ⟨w0, c0, d0, w1, c1, d1⟩ _ _ hr).mono ?_; rintro e w1' ⟨rfl, hb1⟩
  have HS1 := Lib.hid (HS.out.later hb1)
  have HZ1 := Lib.hid (HZ.out.later hb1)
  have hB1 := hB0.trans (hb1.mono hB0.size)
  clear HS HZ hb1 hB0
  go_wp2_with (refine wpList_load_row rfl 46 (.tmp 3) rfl w.heap.size rfl 46 #[.bool w0, .int .i64 c0, .int .i64 d0, .bool w1, .int .i64 c1, .int .i64 d1] (0, 0) (.array 2 45) HS1.out Try.underlying46 rfl (by kernel_rfl) ?_)
  refine (cur_is ⟨w0, c0, d0, w1, c1, d1⟩ _ _ hc.out).mono ?_; rintro e w2 ⟨rfl, hb2⟩
  have HS2 := Lib.hid (HS1.out.later hb2)
  have HZ2 := Lib.hid (HZ1.out.later hb2)
  have hB2 := hB1.trans (hb2.mono hB1.size)
  clear HS1 HZ1 hb2 hB1
  have HS3 := HS2
  have HZ3 := HZ2
  have hB3 := hB2
  clear HS2 HZ2 hB2
  have u0 : w2.cell? ⟨w.heap.size, 0, none⟩ = some (.bool w0) := HS3.out.cell rfl
  have u1 : w2.cell? ⟨w.heap.size, 1, none⟩ = some (.int .i64 c0) := HS3.out.cell rfl
  have u2 : w2.cell? ⟨w.heap.size, 2, none⟩ = some (.int .i64 d0) := HS3.out.cell rfl
  have f0 := HS3.out.froz (k := 0)
  have f1 := HS3.out.froz (k := 1)
  have f2 := HS3.out.froz (k := 2)
  go_upto_region 10 with (fail)
  have HS4 := Lib.hid (((HS3.out.set (k := 0) (.bool true)).set (k := 1) (.int .i64 1)).set (k := 2) (.int .i64 data))
  have HZ4 := Lib.hid (((HZ3.out.other (g' := w.heap.size) (k := 0) (by omega) (.bool true)).other (g' := w.heap.size) (k := 1) (by omega) (.int .i64 1)).other (g' := w.heap.size) (k := 2) (by omega) (.int .i64 data))
  have hB4 := ((hB3.setCell (p := ⟨w.heap.size, 0, none⟩) (Nat.le_refl _) (.bool true)).setCell (p := ⟨w.heap.size, 1, none⟩) (Nat.le_refl _) (.int .i64 1)).setCell (p := ⟨w.heap.size, 2, none⟩) (Nat.le_refl _) (.int .i64 data)
  clear u0 u1 u2 f0 f1 f2 HS3 HZ3 hB3
  generalize (((w2.setCell ⟨w.heap.size, 0, none⟩ (.bool true)).setCell ⟨w.heap.size, 1, none⟩ (.int .i64 1)).setCell ⟨w.heap.size, 2, none⟩ (.int .i64 data)) = w4 at HS4 HZ4 hB4 ⊢
  have HS5 := HS4
  have HZ5 := HZ4
  have hB5 := hB4
  clear HS4 HZ4 hB4
  go_wp2_with (first
    | refine wpList_load_row rfl 46 (.tmp 3) rfl w.heap.size rfl 46 #[.bool true, .int .i64 1, .int .i64 data, .bool w1, .int .i64 c1, .int .i64 d1] (0, 0) (.array 2 45) HS5.out Try.underlying46 rfl (by kernel_rfl) ?_
    | refine wpList_store_row rfl 46 (.tmp 6) (.tmp 38) rfl (w.heap.size + 1) #[.bool true, .int .i64 1, .int .i64 data, .bool w1, .int .i64 c1, .int .i64 d1] rfl rfl 46 #[.bool false, .int .i64 0, .int .i64 0, .bool false, .int .i64 0, .int .i64 0] HZ5.out (by kernel_rfl) rfl (by simp [Value.oneCell']) ?_)
  have hld := (HZ5.out.row [.bool true, .int .i64 1, .int .i64 data, .bool w1, .int .i64 c1, .int .i64 d1]).load Try.underlying46 (by kernel_rfl)
  have hB9 := below_row hB5 (show w.heap.size ≤ w.heap.size + 1 by omega) [.bool true, .int .i64 1, .int .i64 data, .bool w1, .int .i64 c1, .int .i64 d1].toArray
  refine bodyPost_ret (v := .tuple #[.agg [.bool true, .int .i64 1, .int .i64 data, .bool w1, .int .i64 c1, .int .i64 d1].toArray, .int .i64 0]) ?_ rfl ?_
  · simp [results, Try.results20, asAddr, hld]
  · exact Ret.mk (pairT (t := ⟨true, 1, data, w1, c1, d1⟩) HE.out) hB9

set_option maxHeartbeats 1600000 in
theorem write_full_z (w0 : Bool) (c0 d0 : Int) (w1 : Bool) (c1 d1 : Int) (data : Int) (broken : Bool) (w : World) (hr : rightB ⟨w0, c0, d0, w1, c1, d1⟩ = true) (hcur : cur ⟨w0, c0, d0, w1, c1, d1⟩ = 0) (hf : c0 = 1099511627776) :
    Calls Try.prog 20 #[.agg #[.bool w0, .int .i64 c0, .int .i64 d0, .bool w1, .int .i64 c1, .int .i64 d1], .int .i64 data, .bool broken] w (Ret w (.tuple #[(writeE ⟨w0, c0, d0, w1, c1, d1⟩ data broken).1.val, .int .i64 (writeE ⟨w0, c0, d0, w1, c1, d1⟩ data broken).2])) := by
  have hcnt : countOf ⟨w0, c0, d0, w1, c1, d1⟩ = c0 := by rw [countOf, hcur]; rfl
  have hbd := rightB_bd hr
  simp only at hbd
  obtain ⟨b0, b1, b2, b3⟩ := hbd
  have HE : Hid (writeE ⟨w0, c0, d0, w1, c1, d1⟩ data broken = (zero, 4)) := Lib.hid (by rw [writeE, hr, if_pos rfl, hcnt, if_pos hf])
  have ht : (c0 == 1099511627776) = true := by simpa using hf
  clear hcnt hf
  have hc := Lib.hid hcur
  clear hcur
  have HS : Hid (Blk ((w.alloc (.cells #[.bool w0, .int .i64 c0, .int .i64 d0, .bool w1, .int .i64 c1, .int .i64 d1] 46)).alloc (.cells #[.bool false, .int .i64 0, .int .i64 0, .bool false, .int .i64 0, .int .i64 0] 46)) w.heap.size 46 [.bool w0, .int .i64 c0, .int .i64 d0, .bool w1, .int .i64 c1, .int .i64 d1]) := Lib.hid ((Blk.new w _ [.bool w0, .int .i64 c0, .int .i64 d0, .bool w1, .int .i64 c1, .int .i64 d1]).alloc _)
  have HZ : Hid (Blk ((w.alloc (.cells #[.bool w0, .int .i64 c0, .int .i64 d0, .bool w1, .int .i64 c1, .int .i64 d1] 46)).alloc (.cells #[.bool false, .int .i64 0, .int .i64 0, .bool false, .int .i64 0, .int .i64 0] 46)) (w.heap.size + 1) 46 [.bool false, .int .i64 0, .int .i64 0, .bool false, .int .i64 0, .int .i64 0]) := Lib.hid (by
    have := Blk.new (w.alloc (.cells #[.bool w0, .int .i64 c0, .int .i64 d0, .bool w1, .int .i64 c1, .int .i64 d1] 46)) 46 [.bool false, .int .i64 0, .int .i64 0, .bool false, .int .i64 0, .int .i64 0]
    rwa [show (w.alloc (.cells #[.bool w0, .int .i64 c0, .int .i64 d0, .bool w1, .int .i64 c1, .int .i64 d1] 46)).heap.size = w.heap.size + 1 by simp] at this)
  have hB0 : Below w.heap.size w ((w.alloc (.cells #[.bool w0, .int .i64 c0, .int .i64 d0, .bool w1, .int .i64 c1, .int .i64 d1] 46)).alloc (.cells #[.bool false, .int .i64 0, .int .i64 0, .bool false, .int .i64 0, .int .i64 0] 46)) := ((Below.refl _ _).alloc (Nat.le_refl _) _).alloc (by simp) _
  go_enter Try.func20, Try.ntmps20
  go_wp2_with (refine wpList_load_row rfl 46 (.tmp 3) rfl w.heap.size rfl 46 #[.bool w0, .int .i64 c0, .int .i64 d0, .bool w1, .int .i64 c1, .int .i64 d1] (0, 0) (.array 2 45) HS.out Try.underlying46 rfl (by kernel_rfl) ?_)
  refine (right_is ⟨w0, c0, d0, w1, c1, d1⟩ _ _ hr).mono ?_; rintro e w1' ⟨rfl, hb1⟩
  have HS1 := Lib.hid (HS.out.later hb1)
  have HZ1 := Lib.hid (HZ.out.later hb1)
  have hB1 := hB0.trans (hb1.mono hB0.size)
  clear HS HZ hb1 hB0
  go_wp2_with (refine wpList_load_row rfl 46 (.tmp 3) rfl w.heap.size rfl 46 #[.bool w0, .int .i64 c0, .int .i64 d0, .bool w1, .int .i64 c1, .int .i64 d1] (0, 0) (.array 2 45) HS1.out Try.underlying46 rfl (by kernel_rfl) ?_)
  refine (cur_is ⟨w0, c0, d0, w1, c1, d1⟩ _ _ hc.out).mono ?_; rintro e w2 ⟨rfl, hb2⟩
  have HS2 := Lib.hid (HS1.out.later hb2)
  have HZ2 := Lib.hid (HZ1.out.later hb2)
  have hB2 := hB1.trans (hb2.mono hB1.size)
  clear HS1 HZ1 hb2 hB1
  go_wp2
  have e1 : ∀ z : LaterOf w2, z.w.cell? ⟨w.heap.size, 1, none⟩ = some (.int .i64 c0) := fun z => z.cell (HS2.out.cell rfl)
  refine wp_region_later (by kernel_rfl) (by kernel_rfl) ?_
  repeat (go_big_quiet_step (fail))
  refine wpQuiet_nil ?_; intro xw hw'; obtain ⟨xq, hw''⟩ := hw'; obtain ⟨xw0, xh⟩ := xq; change xw = xw0 at hw''; subst hw''
  have HS3 := Lib.hid (HS2.out.later xh)
  have HZ3 := Lib.hid (HZ2.out.later xh)
  have hB3 := hB2.trans (xh.mono hB2.size)
  clear HS2 HZ2 xh hB2 e1
  go_wp2_with (refine wpList_store_row rfl 46 (.tmp 6) (.tmp 27) rfl (w.heap.size + 1) #[.bool false, .int .i64 0, .int .i64 0, .bool false, .int .i64 0, .int .i64 0] rfl rfl 46 #[.bool false, .int .i64 0, .int .i64 0, .bool false, .int .i64 0, .int .i64 0] HZ3.out (by kernel_rfl) rfl (by simp [Value.oneCell']) ?_)
  have hld := (HZ3.out.row [.bool false, .int .i64 0, .int .i64 0, .bool false, .int .i64 0, .int .i64 0]).load Try.underlying46 (by kernel_rfl)
  have hB9 := below_row hB3 (show w.heap.size ≤ w.heap.size + 1 by omega) [.bool false, .int .i64 0, .int .i64 0, .bool false, .int .i64 0, .int .i64 0].toArray
  refine bodyPost_ret (v := .tuple #[.agg [.bool false, .int .i64 0, .int .i64 0, .bool false, .int .i64 0, .int .i64 0].toArray, .int .i64 4]) ?_ rfl ?_
  · simp [results, Try.results20, asAddr, hld]
  · exact Ret.mk (pairT (t := zero) HE.out) hB9

set_option maxHeartbeats 1600000 in
theorem write_z_true (w0 : Bool) (c0 d0 : Int) (w1 : Bool) (c1 d1 : Int) (data : Int) (w : World) (hr : rightB ⟨w0, c0, d0, w1, c1, d1⟩ = true) (hcur : cur ⟨w0, c0, d0, w1, c1, d1⟩ = 0) (hf : c0 ≠ 1099511627776) :
    Calls Try.prog 20 #[.agg #[.bool w0, .int .i64 c0, .int .i64 d0, .bool w1, .int .i64 c1, .int .i64 d1], .int .i64 data, .bool true] w (Ret w (.tuple #[(writeE ⟨w0, c0, d0, w1, c1, d1⟩ data true).1.val, .int .i64 (writeE ⟨w0, c0, d0, w1, c1, d1⟩ data true).2])) := by
  have hcnt : countOf ⟨w0, c0, d0, w1, c1, d1⟩ = c0 := by rw [countOf, hcur]; rfl
  have hbd := rightB_bd hr
  simp only at hbd
  obtain ⟨b0, b1, b2, b3⟩ := hbd
  have HE : Hid (writeE ⟨w0, c0, d0, w1, c1, d1⟩ data true = (⟨w0, c0, d0, false, 0, 0⟩, 0)) := Lib.hid (by rw [writeE, hr, if_pos rfl, hcnt, if_neg hf, hcur]; rfl)
  have ht : ((c0 : Int) == 1099511627776) = false := by simpa using hf
  clear hcnt hf
  have hc := Lib.hid hcur
  clear hcur
  have HS : Hid (Blk ((w.alloc (.cells #[.bool w0, .int .i64 c0, .int .i64 d0, .bool w1, .int .i64 c1, .int .i64 d1] 46)).alloc (.cells #[.bool false, .int .i64 0, .int .i64 0, .bool false, .int .i64 0, .int .i64 0] 46)) w.heap.size 46 [.bool w0, .int .i64 c0, .int .i64 d0, .bool w1, .int .i64 c1, .int .i64 d1]) := Lib.hid ((Blk.new w _ [.bool w0, .int .i64 c0, .int .i64 d0, .bool w1, .int .i64 c1, .int .i64 d1]).alloc _)
  have HZ : Hid (Blk ((w.alloc (.cells #[.bool w0, .int .i64 c0, .int .i64 d0, .bool w1, .int .i64 c1, .int .i64 d1] 46)).alloc (.cells #[.bool false, .int .i64 0, .int .i64 0, .bool false, .int .i64 0, .int .i64 0] 46)) (w.heap.size + 1) 46 [.bool false, .int .i64 0, .int .i64 0, .bool false, .int .i64 0, .int .i64 0]) := Lib.hid (by
    have := Blk.new (w.alloc (.cells #[.bool w0, .int .i64 c0, .int .i64 d0, .bool w1, .int .i64 c1, .int .i64 d1] 46)) 46 [.bool false, .int .i64 0, .int .i64 0, .bool false, .int .i64 0, .int .i64 0]
    rwa [show (w.alloc (.cells #[.bool w0, .int .i64 c0, .int .i64 d0, .bool w1, .int .i64 c1, .int .i64 d1] 46)).heap.size = w.heap.size + 1 by simp] at this)
  have hB0 : Below w.heap.size w ((w.alloc (.cells #[.bool w0, .int .i64 c0, .int .i64 d0, .bool w1, .int .i64 c1, .int .i64 d1] 46)).alloc (.cells #[.bool false, .int .i64 0, .int .i64 0, .bool false, .int .i64 0, .int .i64 0] 46)) := ((Below.refl _ _).alloc (Nat.le_refl _) _).alloc (by simp) _
  go_enter Try.func20, Try.ntmps20
  go_wp2_with (refine wpList_load_row rfl 46 (.tmp 3) rfl w.heap.size rfl 46 #[.bool w0, .int .i64 c0, .int .i64 d0, .bool w1, .int .i64 c1, .int .i64 d1] (0, 0) (.array 2 45) HS.out Try.underlying46 rfl (by kernel_rfl) ?_)
  refine (right_is ⟨w0, c0, d0, w1, c1, d1⟩ _ _ hr).mono ?_; rintro e w1' ⟨rfl, hb1⟩
  have HS1 := Lib.hid (HS.out.later hb1)
  have HZ1 := Lib.hid (HZ.out.later hb1)
  have hB1 := hB0.trans (hb1.mono hB0.size)
  clear HS HZ hb1 hB0
  go_wp2_with (refine wpList_load_row rfl 46 (.tmp 3) rfl w.heap.size rfl 46 #[.bool w0, .int .i64 c0, .int .i64 d0, .bool w1, .int .i64 c1, .int .i64 d1] (0, 0) (.array 2 45) HS1.out Try.underlying46 rfl (by kernel_rfl) ?_)
  refine (cur_is ⟨w0, c0, d0, w1, c1, d1⟩ _ _ hc.out).mono ?_; rintro e w2 ⟨rfl, hb2⟩
  have HS2 := Lib.hid (HS1.out.later hb2)
  have HZ2 := Lib.hid (HZ1.out.later hb2)
  have hB2 := hB1.trans (hb2.mono hB1.size)
  clear HS1 HZ1 hb2 hB1
  go_wp2
  have e1 : ∀ z : LaterOf w2, z.w.cell? ⟨w.heap.size, 1, none⟩ = some (.int .i64 c0) := fun z => z.cell (HS2.out.cell rfl)
  refine wp_region_later (by kernel_rfl) (by kernel_rfl) ?_
  repeat (go_big_quiet_step (fail))
  refine wpQuiet_nil ?_; intro xw hw'; obtain ⟨xq, hw''⟩ := hw'; obtain ⟨xw0, xh⟩ := xq; change xw = xw0 at hw''; subst hw''
  have HS3 := Lib.hid (HS2.out.later xh)
  have HZ3 := Lib.hid (HZ2.out.later xh)
  have hB3 := hB2.trans (xh.mono hB2.size)
  clear HS2 HZ2 xh hB2 e1
  have u0 : xw.cell? ⟨w.heap.size, 3, none⟩ = some (.bool w1) := HS3.out.cell rfl
  have u1 : xw.cell? ⟨w.heap.size, 4, none⟩ = some (.int .i64 c1) := HS3.out.cell rfl
  have u2 : xw.cell? ⟨w.heap.size, 5, none⟩ = some (.int .i64 d1) := HS3.out.cell rfl
  have f0 := HS3.out.froz (k := 3)
  have f1 := HS3.out.froz (k := 4)
  have f2 := HS3.out.froz (k := 5)
  go_upto_region 10 with (fail)
  have HS4 := Lib.hid (((HS3.out.set (k := 3) (.bool true)).set (k := 4) (.int .i64 (c0 + 1))).set (k := 5) (.int .i64 data))
  have HZ4 := Lib.hid (((HZ3.out.other (g' := w.heap.size) (k := 3) (by omega) (.bool true)).other (g' := w.heap.size) (k := 4) (by omega) (.int .i64 (c0 + 1))).other (g' := w.heap.size) (k := 5) (by omega) (.int .i64 data))
  have hB4 := ((hB3.setCell (p := ⟨w.heap.size, 3, none⟩) (Nat.le_refl _) (.bool true)).setCell (p := ⟨w.heap.size, 4, none⟩) (Nat.le_refl _) (.int .i64 (c0 + 1))).setCell (p := ⟨w.heap.size, 5, none⟩) (Nat.le_refl _) (.int .i64 data)
  clear u0 u1 u2 f0 f1 f2 HS3 HZ3 hB3
  generalize (((xw.setCell ⟨w.heap.size, 3, none⟩ (.bool true)).setCell ⟨w.heap.size, 4, none⟩ (.int .i64 (c0 + 1))).setCell ⟨w.heap.size, 5, none⟩ (.int .i64 data)) = w4 at HS4 HZ4 hB4 ⊢
  have u0 : w4.cell? ⟨w.heap.size, 3, none⟩ = some (.bool true) := HS4.out.cell rfl
  have u1 : w4.cell? ⟨w.heap.size, 4, none⟩ = some (.int .i64 (c0 + 1)) := HS4.out.cell rfl
  have u2 : w4.cell? ⟨w.heap.size, 5, none⟩ = some (.int .i64 data) := HS4.out.cell rfl
  have f0 := HS4.out.froz (k := 3)
  have f1 := HS4.out.froz (k := 4)
  have f2 := HS4.out.froz (k := 5)
  go_upto_region 12 with (fail)
  have HS5 := Lib.hid (((HS4.out.set (k := 3) (.bool false)).set (k := 4) (.int .i64 0)).set (k := 5) (.int .i64 0))
  have HZ5 := Lib.hid (((HZ4.out.other (g' := w.heap.size) (k := 3) (by omega) (.bool false)).other (g' := w.heap.size) (k := 4) (by omega) (.int .i64 0)).other (g' := w.heap.size) (k := 5) (by omega) (.int .i64 0))
  have hB5 := ((hB4.setCell (p := ⟨w.heap.size, 3, none⟩) (Nat.le_refl _) (.bool false)).setCell (p := ⟨w.heap.size, 4, none⟩) (Nat.le_refl _) (.int .i64 0)).setCell (p := ⟨w.heap.size, 5, none⟩) (Nat.le_refl _) (.int .i64 0)
  clear u0 u1 u2 f0 f1 f2 HS4 HZ4 hB4
  generalize (((w4.setCell ⟨w.heap.size, 3, none⟩ (.bool false)).setCell ⟨w.heap.size, 4, none⟩ (.int .i64 0)).setCell ⟨w.heap.size, 5, none⟩ (.int .i64 0)) = w5 at HS5 HZ5 hB5 ⊢
  go_wp2_with (first
    | refine wpList_load_row rfl 46 (.tmp 3) rfl w.heap.size rfl 46 #[.bool w0, .int .i64 c0, .int .i64 d0, .bool false, .int .i64 0, .int .i64 0] (0, 0) (.array 2 45) HS5.out Try.underlying46 rfl (by kernel_rfl) ?_
    | refine wpList_store_row rfl 46 (.tmp 6) (.tmp 38) rfl (w.heap.size + 1) #[.bool w0, .int .i64 c0, .int .i64 d0, .bool false, .int .i64 0, .int .i64 0] rfl rfl 46 #[.bool false, .int .i64 0, .int .i64 0, .bool false, .int .i64 0, .int .i64 0] HZ5.out (by kernel_rfl) rfl (by simp [Value.oneCell']) ?_)
  have hld := (HZ5.out.row [.bool w0, .int .i64 c0, .int .i64 d0, .bool false, .int .i64 0, .int .i64 0]).load Try.underlying46 (by kernel_rfl)
  have hB9 := below_row hB5 (show w.heap.size ≤ w.heap.size + 1 by omega) [.bool w0, .int .i64 c0, .int .i64 d0, .bool false, .int .i64 0, .int .i64 0].toArray
  refine bodyPost_ret (v := .tuple #[.agg [.bool w0, .int .i64 c0, .int .i64 d0, .bool false, .int .i64 0, .int .i64 0].toArray, .int .i64 0]) ?_ rfl ?_
  · simp [results, Try.results20, asAddr, hld]
  · exact Ret.mk (pairT (t := ⟨w0, c0, d0, false, 0, 0⟩) HE.out) hB9

set_option maxHeartbeats 1600000 in
theorem write_z_false (w0 : Bool) (c0 d0 : Int) (w1 : Bool) (c1 d1 : Int) (data : Int) (w : World) (hr : rightB ⟨w0, c0, d0, w1, c1, d1⟩ = true) (hcur : cur ⟨w0, c0, d0, w1, c1, d1⟩ = 0) (hf : c0 ≠ 1099511627776) :
    Calls Try.prog 20 #[.agg #[.bool w0, .int .i64 c0, .int .i64 d0, .bool w1, .int .i64 c1, .int .i64 d1], .int .i64 data, .bool false] w (Ret w (.tuple #[(writeE ⟨w0, c0, d0, w1, c1, d1⟩ data false).1.val, .int .i64 (writeE ⟨w0, c0, d0, w1, c1, d1⟩ data false).2])) := by
  have hcnt : countOf ⟨w0, c0, d0, w1, c1, d1⟩ = c0 := by rw [countOf, hcur]; rfl
  have hbd := rightB_bd hr
  simp only at hbd
  obtain ⟨b0, b1, b2, b3⟩ := hbd
  have HE : Hid (writeE ⟨w0, c0, d0, w1, c1, d1⟩ data false = (⟨w0, c0, d0, true, c0 + 1, data⟩, 0)) := Lib.hid (by rw [writeE, hr, if_pos rfl, hcnt, if_neg hf, hcur]; rfl)
  have ht : ((c0 : Int) == 1099511627776) = false := by simpa using hf
  clear hcnt hf
  have hc := Lib.hid hcur
  clear hcur
  have HS : Hid (Blk ((w.alloc (.cells #[.bool w0, .int .i64 c0, .int .i64 d0, .bool w1, .int .i64 c1, .int .i64 d1] 46)).alloc (.cells #[.bool false, .int .i64 0, .int .i64 0, .bool false, .int .i64 0, .int .i64 0] 46)) w.heap.size 46 [.bool w0, .int .i64 c0, .int .i64 d0, .bool w1, .int .i64 c1, .int .i64 d1]) := Lib.hid ((Blk.new w _ [.bool w0, .int .i64 c0, .int .i64 d0, .bool w1, .int .i64 c1, .int .i64 d1]).alloc _)
  have HZ : Hid (Blk ((w.alloc (.cells #[.bool w0, .int .i64 c0, .int .i64 d0, .bool w1, .int .i64 c1, .int .i64 d1] 46)).alloc (.cells #[.bool false, .int .i64 0, .int .i64 0, .bool false, .int .i64 0, .int .i64 0] 46)) (w.heap.size + 1) 46 [.bool false, .int .i64 0, .int .i64 0, .bool false, .int .i64 0, .int .i64 0]) := Lib.hid (by
    have := Blk.new (w.alloc (.cells #[.bool w0, .int .i64 c0, .int .i64 d0, .bool w1, .int .i64 c1, .int .i64 d1] 46)) 46 [.bool false, .int .i64 0, .int .i64 0, .bool false, .int .i64 0, .int .i64 0]
    rwa [show (w.alloc (.cells #[.bool w0, .int .i64 c0, .int .i64 d0, .bool w1, .int .i64 c1, .int .i64 d1] 46)).heap.size = w.heap.size + 1 by simp] at this)
  have hB0 : Below w.heap.size w ((w.alloc (.cells #[.bool w0, .int .i64 c0, .int .i64 d0, .bool w1, .int .i64 c1, .int .i64 d1] 46)).alloc (.cells #[.bool false, .int .i64 0, .int .i64 0, .bool false, .int .i64 0, .int .i64 0] 46)) := ((Below.refl _ _).alloc (Nat.le_refl _) _).alloc (by simp) _
  go_enter Try.func20, Try.ntmps20
  go_wp2_with (refine wpList_load_row rfl 46 (.tmp 3) rfl w.heap.size rfl 46 #[.bool w0, .int .i64 c0, .int .i64 d0, .bool w1, .int .i64 c1, .int .i64 d1] (0, 0) (.array 2 45) HS.out Try.underlying46 rfl (by kernel_rfl) ?_)
  refine (right_is ⟨w0, c0, d0, w1, c1, d1⟩ _ _ hr).mono ?_; rintro e w1' ⟨rfl, hb1⟩
  have HS1 := Lib.hid (HS.out.later hb1)
  have HZ1 := Lib.hid (HZ.out.later hb1)
  have hB1 := hB0.trans (hb1.mono hB0.size)
  clear HS HZ hb1 hB0
  go_wp2_with (refine wpList_load_row rfl 46 (.tmp 3) rfl w.heap.size rfl 46 #[.bool w0, .int .i64 c0, .int .i64 d0, .bool w1, .int .i64 c1, .int .i64 d1] (0, 0) (.array 2 45) HS1.out Try.underlying46 rfl (by kernel_rfl) ?_)
  refine (cur_is ⟨w0, c0, d0, w1, c1, d1⟩ _ _ hc.out).mono ?_; rintro e w2 ⟨rfl, hb2⟩
  have HS2 := Lib.hid (HS1.out.later hb2)
  have HZ2 := Lib.hid (HZ1.out.later hb2)
  have hB2 := hB1.trans (hb2.mono hB1.size)
  clear HS1 HZ1 hb2 hB1
  go_wp2
  have e1 : ∀ z : LaterOf w2, z.w.cell? ⟨w.heap.size, 1, none⟩ = some (.int .i64 c0) := fun z => z.cell (HS2.out.cell rfl)
  refine wp_region_later (by kernel_rfl) (by kernel_rfl) ?_
  repeat (go_big_quiet_step (fail))
  refine wpQuiet_nil ?_; intro xw hw'; obtain ⟨xq, hw''⟩ := hw'; obtain ⟨xw0, xh⟩ := xq; change xw = xw0 at hw''; subst hw''
  have HS3 := Lib.hid (HS2.out.later xh)
  have HZ3 := Lib.hid (HZ2.out.later xh)
  have hB3 := hB2.trans (xh.mono hB2.size)
  clear HS2 HZ2 xh hB2 e1
  have u0 : xw.cell? ⟨w.heap.size, 3, none⟩ = some (.bool w1) := HS3.out.cell rfl
  have u1 : xw.cell? ⟨w.heap.size, 4, none⟩ = some (.int .i64 c1) := HS3.out.cell rfl
  have u2 : xw.cell? ⟨w.heap.size, 5, none⟩ = some (.int .i64 d1) := HS3.out.cell rfl
  have f0 := HS3.out.froz (k := 3)
  have f1 := HS3.out.froz (k := 4)
  have f2 := HS3.out.froz (k := 5)
  go_upto_region 10 with (fail)
  have HS4 := Lib.hid (((HS3.out.set (k := 3) (.bool true)).set (k := 4) (.int .i64 (c0 + 1))).set (k := 5) (.int .i64 data))
  have HZ4 := Lib.hid (((HZ3.out.other (g' := w.heap.size) (k := 3) (by omega) (.bool true)).other (g' := w.heap.size) (k := 4) (by omega) (.int .i64 (c0 + 1))).other (g' := w.heap.size) (k := 5) (by omega) (.int .i64 data))
  have hB4 := ((hB3.setCell (p := ⟨w.heap.size, 3, none⟩) (Nat.le_refl _) (.bool true)).setCell (p := ⟨w.heap.size, 4, none⟩) (Nat.le_refl _) (.int .i64 (c0 + 1))).setCell (p := ⟨w.heap.size, 5, none⟩) (Nat.le_refl _) (.int .i64 data)
  clear u0 u1 u2 f0 f1 f2 HS3 HZ3 hB3
  generalize (((xw.setCell ⟨w.heap.size, 3, none⟩ (.bool true)).setCell ⟨w.heap.size, 4, none⟩ (.int .i64 (c0 + 1))).setCell ⟨w.heap.size, 5, none⟩ (.int .i64 data)) = w4 at HS4 HZ4 hB4 ⊢
  have HS5 := HS4
  have HZ5 := HZ4
  have hB5 := hB4
  clear HS4 HZ4 hB4
  go_wp2_with (first
    | refine wpList_load_row rfl 46 (.tmp 3) rfl w.heap.size rfl 46 #[.bool w0, .int .i64 c0, .int .i64 d0, .bool true, .int .i64 (c0 + 1), .int .i64 data] (0, 0) (.array 2 45) HS5.out Try.underlying46 rfl (by kernel_rfl) ?_
    | refine wpList_store_row rfl 46 (.tmp 6) (.tmp 38) rfl (w.heap.size + 1) #[.bool w0, .int .i64 c0, .int .i64 d0, .bool true, .int .i64 (c0 + 1), .int .i64 data] rfl rfl 46 #[.bool false, .int .i64 0, .int .i64 0, .bool false, .int .i64 0, .int .i64 0] HZ5.out (by kernel_rfl) rfl (by simp [Value.oneCell']) ?_)
  have hld := (HZ5.out.row [.bool w0, .int .i64 c0, .int .i64 d0, .bool true, .int .i64 (c0 + 1), .int .i64 data]).load Try.underlying46 (by kernel_rfl)
  have hB9 := below_row hB5 (show w.heap.size ≤ w.heap.size + 1 by omega) [.bool w0, .int .i64 c0, .int .i64 d0, .bool true, .int .i64 (c0 + 1), .int .i64 data].toArray
  refine bodyPost_ret (v := .tuple #[.agg [.bool w0, .int .i64 c0, .int .i64 d0, .bool true, .int .i64 (c0 + 1), .int .i64 data].toArray, .int .i64 0]) ?_ rfl ?_
  · simp [results, Try.results20, asAddr, hld]
  · exact Ret.mk (pairT (t := ⟨w0, c0, d0, true, c0 + 1, data⟩) HE.out) hB9

set_option maxHeartbeats 1600000 in
theorem write_full_o (w0 : Bool) (c0 d0 : Int) (w1 : Bool) (c1 d1 : Int) (data : Int) (broken : Bool) (w : World) (hr : rightB ⟨w0, c0, d0, w1, c1, d1⟩ = true) (hcur : cur ⟨w0, c0, d0, w1, c1, d1⟩ = 1) (hf : c1 = 1099511627776) :
    Calls Try.prog 20 #[.agg #[.bool w0, .int .i64 c0, .int .i64 d0, .bool w1, .int .i64 c1, .int .i64 d1], .int .i64 data, .bool broken] w (Ret w (.tuple #[(writeE ⟨w0, c0, d0, w1, c1, d1⟩ data broken).1.val, .int .i64 (writeE ⟨w0, c0, d0, w1, c1, d1⟩ data broken).2])) := by
  have hcnt : countOf ⟨w0, c0, d0, w1, c1, d1⟩ = c1 := by rw [countOf, hcur]; rfl
  have hbd := rightB_bd hr
  simp only at hbd
  obtain ⟨b0, b1, b2, b3⟩ := hbd
  have HE : Hid (writeE ⟨w0, c0, d0, w1, c1, d1⟩ data broken = (zero, 4)) := Lib.hid (by rw [writeE, hr, if_pos rfl, hcnt, if_pos hf])
  have ht : (c1 == 1099511627776) = true := by simpa using hf
  clear hcnt hf
  have hc := Lib.hid hcur
  clear hcur
  have HS : Hid (Blk ((w.alloc (.cells #[.bool w0, .int .i64 c0, .int .i64 d0, .bool w1, .int .i64 c1, .int .i64 d1] 46)).alloc (.cells #[.bool false, .int .i64 0, .int .i64 0, .bool false, .int .i64 0, .int .i64 0] 46)) w.heap.size 46 [.bool w0, .int .i64 c0, .int .i64 d0, .bool w1, .int .i64 c1, .int .i64 d1]) := Lib.hid ((Blk.new w _ [.bool w0, .int .i64 c0, .int .i64 d0, .bool w1, .int .i64 c1, .int .i64 d1]).alloc _)
  have HZ : Hid (Blk ((w.alloc (.cells #[.bool w0, .int .i64 c0, .int .i64 d0, .bool w1, .int .i64 c1, .int .i64 d1] 46)).alloc (.cells #[.bool false, .int .i64 0, .int .i64 0, .bool false, .int .i64 0, .int .i64 0] 46)) (w.heap.size + 1) 46 [.bool false, .int .i64 0, .int .i64 0, .bool false, .int .i64 0, .int .i64 0]) := Lib.hid (by
    have := Blk.new (w.alloc (.cells #[.bool w0, .int .i64 c0, .int .i64 d0, .bool w1, .int .i64 c1, .int .i64 d1] 46)) 46 [.bool false, .int .i64 0, .int .i64 0, .bool false, .int .i64 0, .int .i64 0]
    rwa [show (w.alloc (.cells #[.bool w0, .int .i64 c0, .int .i64 d0, .bool w1, .int .i64 c1, .int .i64 d1] 46)).heap.size = w.heap.size + 1 by simp] at this)
  have hB0 : Below w.heap.size w ((w.alloc (.cells #[.bool w0, .int .i64 c0, .int .i64 d0, .bool w1, .int .i64 c1, .int .i64 d1] 46)).alloc (.cells #[.bool false, .int .i64 0, .int .i64 0, .bool false, .int .i64 0, .int .i64 0] 46)) := ((Below.refl _ _).alloc (Nat.le_refl _) _).alloc (by simp) _
  go_enter Try.func20, Try.ntmps20
  go_wp2_with (refine wpList_load_row rfl 46 (.tmp 3) rfl w.heap.size rfl 46 #[.bool w0, .int .i64 c0, .int .i64 d0, .bool w1, .int .i64 c1, .int .i64 d1] (0, 0) (.array 2 45) HS.out Try.underlying46 rfl (by kernel_rfl) ?_)
  refine (right_is ⟨w0, c0, d0, w1, c1, d1⟩ _ _ hr).mono ?_; rintro e w1' ⟨rfl, hb1⟩
  have HS1 := Lib.hid (HS.out.later hb1)
  have HZ1 := Lib.hid (HZ.out.later hb1)
  have hB1 := hB0.trans (hb1.mono hB0.size)
  clear HS HZ hb1 hB0
  go_wp2_with (refine wpList_load_row rfl 46 (.tmp 3) rfl w.heap.size rfl 46 #[.bool w0, .int .i64 c0, .int .i64 d0, .bool w1, .int .i64 c1, .int .i64 d1] (0, 0) (.array 2 45) HS1.out Try.underlying46 rfl (by kernel_rfl) ?_)
  refine (cur_is ⟨w0, c0, d0, w1, c1, d1⟩ _ _ hc.out).mono ?_; rintro e w2 ⟨rfl, hb2⟩
  have HS2 := Lib.hid (HS1.out.later hb2)
  have HZ2 := Lib.hid (HZ1.out.later hb2)
  have hB2 := hB1.trans (hb2.mono hB1.size)
  clear HS1 HZ1 hb2 hB1
  go_wp2
  have e1 : ∀ z : LaterOf w2, z.w.cell? ⟨w.heap.size, 4, none⟩ = some (.int .i64 c1) := fun z => z.cell (HS2.out.cell rfl)
  refine wp_region_later (by kernel_rfl) (by kernel_rfl) ?_
  repeat (go_big_quiet_step (fail))
  refine wpQuiet_nil ?_; intro xw hw'; obtain ⟨xq, hw''⟩ := hw'; obtain ⟨xw0, xh⟩ := xq; change xw = xw0 at hw''; subst hw''
  have HS3 := Lib.hid (HS2.out.later xh)
  have HZ3 := Lib.hid (HZ2.out.later xh)
  have hB3 := hB2.trans (xh.mono hB2.size)
  clear HS2 HZ2 xh hB2 e1
  go_wp2_with (refine wpList_store_row rfl 46 (.tmp 6) (.tmp 27) rfl (w.heap.size + 1) #[.bool false, .int .i64 0, .int .i64 0, .bool false, .int .i64 0, .int .i64 0] rfl rfl 46 #[.bool false, .int .i64 0, .int .i64 0, .bool false, .int .i64 0, .int .i64 0] HZ3.out (by kernel_rfl) rfl (by simp [Value.oneCell']) ?_)
  have hld := (HZ3.out.row [.bool false, .int .i64 0, .int .i64 0, .bool false, .int .i64 0, .int .i64 0]).load Try.underlying46 (by kernel_rfl)
  have hB9 := below_row hB3 (show w.heap.size ≤ w.heap.size + 1 by omega) [.bool false, .int .i64 0, .int .i64 0, .bool false, .int .i64 0, .int .i64 0].toArray
  refine bodyPost_ret (v := .tuple #[.agg [.bool false, .int .i64 0, .int .i64 0, .bool false, .int .i64 0, .int .i64 0].toArray, .int .i64 4]) ?_ rfl ?_
  · simp [results, Try.results20, asAddr, hld]
  · exact Ret.mk (pairT (t := zero) HE.out) hB9

set_option maxHeartbeats 1600000 in
theorem write_o_true (w0 : Bool) (c0 d0 : Int) (w1 : Bool) (c1 d1 : Int) (data : Int) (w : World) (hr : rightB ⟨w0, c0, d0, w1, c1, d1⟩ = true) (hcur : cur ⟨w0, c0, d0, w1, c1, d1⟩ = 1) (hf : c1 ≠ 1099511627776) :
    Calls Try.prog 20 #[.agg #[.bool w0, .int .i64 c0, .int .i64 d0, .bool w1, .int .i64 c1, .int .i64 d1], .int .i64 data, .bool true] w (Ret w (.tuple #[(writeE ⟨w0, c0, d0, w1, c1, d1⟩ data true).1.val, .int .i64 (writeE ⟨w0, c0, d0, w1, c1, d1⟩ data true).2])) := by
  have hcnt : countOf ⟨w0, c0, d0, w1, c1, d1⟩ = c1 := by rw [countOf, hcur]; rfl
  have hbd := rightB_bd hr
  simp only at hbd
  obtain ⟨b0, b1, b2, b3⟩ := hbd
  have HE : Hid (writeE ⟨w0, c0, d0, w1, c1, d1⟩ data true = (⟨false, 0, 0, w1, c1, d1⟩, 0)) := Lib.hid (by rw [writeE, hr, if_pos rfl, hcnt, if_neg hf, hcur]; rfl)
  have ht : ((c1 : Int) == 1099511627776) = false := by simpa using hf
  clear hcnt hf
  have hc := Lib.hid hcur
  clear hcur
  have HS : Hid (Blk ((w.alloc (.cells #[.bool w0, .int .i64 c0, .int .i64 d0, .bool w1, .int .i64 c1, .int .i64 d1] 46)).alloc (.cells #[.bool false, .int .i64 0, .int .i64 0, .bool false, .int .i64 0, .int .i64 0] 46)) w.heap.size 46 [.bool w0, .int .i64 c0, .int .i64 d0, .bool w1, .int .i64 c1, .int .i64 d1]) := Lib.hid ((Blk.new w _ [.bool w0, .int .i64 c0, .int .i64 d0, .bool w1, .int .i64 c1, .int .i64 d1]).alloc _)
  have HZ : Hid (Blk ((w.alloc (.cells #[.bool w0, .int .i64 c0, .int .i64 d0, .bool w1, .int .i64 c1, .int .i64 d1] 46)).alloc (.cells #[.bool false, .int .i64 0, .int .i64 0, .bool false, .int .i64 0, .int .i64 0] 46)) (w.heap.size + 1) 46 [.bool false, .int .i64 0, .int .i64 0, .bool false, .int .i64 0, .int .i64 0]) := Lib.hid (by
    have := Blk.new (w.alloc (.cells #[.bool w0, .int .i64 c0, .int .i64 d0, .bool w1, .int .i64 c1, .int .i64 d1] 46)) 46 [.bool false, .int .i64 0, .int .i64 0, .bool false, .int .i64 0, .int .i64 0]
    rwa [show (w.alloc (.cells #[.bool w0, .int .i64 c0, .int .i64 d0, .bool w1, .int .i64 c1, .int .i64 d1] 46)).heap.size = w.heap.size + 1 by simp] at this)
  have hB0 : Below w.heap.size w ((w.alloc (.cells #[.bool w0, .int .i64 c0, .int .i64 d0, .bool w1, .int .i64 c1, .int .i64 d1] 46)).alloc (.cells #[.bool false, .int .i64 0, .int .i64 0, .bool false, .int .i64 0, .int .i64 0] 46)) := ((Below.refl _ _).alloc (Nat.le_refl _) _).alloc (by simp) _
  go_enter Try.func20, Try.ntmps20
  go_wp2_with (refine wpList_load_row rfl 46 (.tmp 3) rfl w.heap.size rfl 46 #[.bool w0, .int .i64 c0, .int .i64 d0, .bool w1, .int .i64 c1, .int .i64 d1] (0, 0) (.array 2 45) HS.out Try.underlying46 rfl (by kernel_rfl) ?_)
  refine (right_is ⟨w0, c0, d0, w1, c1, d1⟩ _ _ hr).mono ?_; rintro e w1' ⟨rfl, hb1⟩
  have HS1 := Lib.hid (HS.out.later hb1)
  have HZ1 := Lib.hid (HZ.out.later hb1)
  have hB1 := hB0.trans (hb1.mono hB0.size)
  clear HS HZ hb1 hB0
  go_wp2_with (refine wpList_load_row rfl 46 (.tmp 3) rfl w.heap.size rfl 46 #[.bool w0, .int .i64 c0, .int .i64 d0, .bool w1, .int .i64 c1, .int .i64 d1] (0, 0) (.array 2 45) HS1.out Try.underlying46 rfl (by kernel_rfl) ?_)
  refine (cur_is ⟨w0, c0, d0, w1, c1, d1⟩ _ _ hc.out).mono ?_; rintro e w2 ⟨rfl, hb2⟩
  have HS2 := Lib.hid (HS1.out.later hb2)
  have HZ2 := Lib.hid (HZ1.out.later hb2)
  have hB2 := hB1.trans (hb2.mono hB1.size)
  clear HS1 HZ1 hb2 hB1
  go_wp2
  have e1 : ∀ z : LaterOf w2, z.w.cell? ⟨w.heap.size, 4, none⟩ = some (.int .i64 c1) := fun z => z.cell (HS2.out.cell rfl)
  refine wp_region_later (by kernel_rfl) (by kernel_rfl) ?_
  repeat (go_big_quiet_step (fail))
  refine wpQuiet_nil ?_; intro xw hw'; obtain ⟨xq, hw''⟩ := hw'; obtain ⟨xw0, xh⟩ := xq; change xw = xw0 at hw''; subst hw''
  have HS3 := Lib.hid (HS2.out.later xh)
  have HZ3 := Lib.hid (HZ2.out.later xh)
  have hB3 := hB2.trans (xh.mono hB2.size)
  clear HS2 HZ2 xh hB2 e1
  have u0 : xw.cell? ⟨w.heap.size, 0, none⟩ = some (.bool w0) := HS3.out.cell rfl
  have u1 : xw.cell? ⟨w.heap.size, 1, none⟩ = some (.int .i64 c0) := HS3.out.cell rfl
  have u2 : xw.cell? ⟨w.heap.size, 2, none⟩ = some (.int .i64 d0) := HS3.out.cell rfl
  have f0 := HS3.out.froz (k := 0)
  have f1 := HS3.out.froz (k := 1)
  have f2 := HS3.out.froz (k := 2)
  go_upto_region 10 with (fail)
  have HS4 := Lib.hid (((HS3.out.set (k := 0) (.bool true)).set (k := 1) (.int .i64 (c1 + 1))).set (k := 2) (.int .i64 data))
  have HZ4 := Lib.hid (((HZ3.out.other (g' := w.heap.size) (k := 0) (by omega) (.bool true)).other (g' := w.heap.size) (k := 1) (by omega) (.int .i64 (c1 + 1))).other (g' := w.heap.size) (k := 2) (by omega) (.int .i64 data))
  have hB4 := ((hB3.setCell (p := ⟨w.heap.size, 0, none⟩) (Nat.le_refl _) (.bool true)).setCell (p := ⟨w.heap.size, 1, none⟩) (Nat.le_refl _) (.int .i64 (c1 + 1))).setCell (p := ⟨w.heap.size, 2, none⟩) (Nat.le_refl _) (.int .i64 data)
  clear u0 u1 u2 f0 f1 f2 HS3 HZ3 hB3
  generalize (((xw.setCell ⟨w.heap.size, 0, none⟩ (.bool true)).setCell ⟨w.heap.size, 1, none⟩ (.int .i64 (c1 + 1))).setCell ⟨w.heap.size, 2, none⟩ (.int .i64 data)) = w4 at HS4 HZ4 hB4 ⊢
  have u0 : w4.cell? ⟨w.heap.size, 0, none⟩ = some (.bool true) := HS4.out.cell rfl
  have u1 : w4.cell? ⟨w.heap.size, 1, none⟩ = some (.int .i64 (c1 + 1)) := HS4.out.cell rfl
  have u2 : w4.cell? ⟨w.heap.size, 2, none⟩ = some (.int .i64 data) := HS4.out.cell rfl
  have f0 := HS4.out.froz (k := 0)
  have f1 := HS4.out.froz (k := 1)
  have f2 := HS4.out.froz (k := 2)
  go_upto_region 12 with (fail)
  have HS5 := Lib.hid (((HS4.out.set (k := 0) (.bool false)).set (k := 1) (.int .i64 0)).set (k := 2) (.int .i64 0))
  have HZ5 := Lib.hid (((HZ4.out.other (g' := w.heap.size) (k := 0) (by omega) (.bool false)).other (g' := w.heap.size) (k := 1) (by omega) (.int .i64 0)).other (g' := w.heap.size) (k := 2) (by omega) (.int .i64 0))
  have hB5 := ((hB4.setCell (p := ⟨w.heap.size, 0, none⟩) (Nat.le_refl _) (.bool false)).setCell (p := ⟨w.heap.size, 1, none⟩) (Nat.le_refl _) (.int .i64 0)).setCell (p := ⟨w.heap.size, 2, none⟩) (Nat.le_refl _) (.int .i64 0)
  clear u0 u1 u2 f0 f1 f2 HS4 HZ4 hB4
  generalize (((w4.setCell ⟨w.heap.size, 0, none⟩ (.bool false)).setCell ⟨w.heap.size, 1, none⟩ (.int .i64 0)).setCell ⟨w.heap.size, 2, none⟩ (.int .i64 0)) = w5 at HS5 HZ5 hB5 ⊢
  go_wp2_with (first
    | refine wpList_load_row rfl 46 (.tmp 3) rfl w.heap.size rfl 46 #[.bool false, .int .i64 0, .int .i64 0, .bool w1, .int .i64 c1, .int .i64 d1] (0, 0) (.array 2 45) HS5.out Try.underlying46 rfl (by kernel_rfl) ?_
    | refine wpList_store_row rfl 46 (.tmp 6) (.tmp 38) rfl (w.heap.size + 1) #[.bool false, .int .i64 0, .int .i64 0, .bool w1, .int .i64 c1, .int .i64 d1] rfl rfl 46 #[.bool false, .int .i64 0, .int .i64 0, .bool false, .int .i64 0, .int .i64 0] HZ5.out (by kernel_rfl) rfl (by simp [Value.oneCell']) ?_)
  have hld := (HZ5.out.row [.bool false, .int .i64 0, .int .i64 0, .bool w1, .int .i64 c1, .int .i64 d1]).load Try.underlying46 (by kernel_rfl)
  have hB9 := below_row hB5 (show w.heap.size ≤ w.heap.size + 1 by omega) [.bool false, .int .i64 0, .int .i64 0, .bool w1, .int .i64 c1, .int .i64 d1].toArray
  refine bodyPost_ret (v := .tuple #[.agg [.bool false, .int .i64 0, .int .i64 0, .bool w1, .int .i64 c1, .int .i64 d1].toArray, .int .i64 0]) ?_ rfl ?_
  · simp [results, Try.results20, asAddr, hld]
  · exact Ret.mk (pairT (t := ⟨false, 0, 0, w1, c1, d1⟩) HE.out) hB9

set_option maxHeartbeats 1600000 in
theorem write_o_false (w0 : Bool) (c0 d0 : Int) (w1 : Bool) (c1 d1 : Int) (data : Int) (w : World) (hr : rightB ⟨w0, c0, d0, w1, c1, d1⟩ = true) (hcur : cur ⟨w0, c0, d0, w1, c1, d1⟩ = 1) (hf : c1 ≠ 1099511627776) :
    Calls Try.prog 20 #[.agg #[.bool w0, .int .i64 c0, .int .i64 d0, .bool w1, .int .i64 c1, .int .i64 d1], .int .i64 data, .bool false] w (Ret w (.tuple #[(writeE ⟨w0, c0, d0, w1, c1, d1⟩ data false).1.val, .int .i64 (writeE ⟨w0, c0, d0, w1, c1, d1⟩ data false).2])) := by
  have hcnt : countOf ⟨w0, c0, d0, w1, c1, d1⟩ = c1 := by rw [countOf, hcur]; rfl
  have hbd := rightB_bd hr
  simp only at hbd
  obtain ⟨b0, b1, b2, b3⟩ := hbd
  have HE : Hid (writeE ⟨w0, c0, d0, w1, c1, d1⟩ data false = (⟨true, c1 + 1, data, w1, c1, d1⟩, 0)) := Lib.hid (by rw [writeE, hr, if_pos rfl, hcnt, if_neg hf, hcur]; rfl)
  have ht : ((c1 : Int) == 1099511627776) = false := by simpa using hf
  clear hcnt hf
  have hc := Lib.hid hcur
  clear hcur
  have HS : Hid (Blk ((w.alloc (.cells #[.bool w0, .int .i64 c0, .int .i64 d0, .bool w1, .int .i64 c1, .int .i64 d1] 46)).alloc (.cells #[.bool false, .int .i64 0, .int .i64 0, .bool false, .int .i64 0, .int .i64 0] 46)) w.heap.size 46 [.bool w0, .int .i64 c0, .int .i64 d0, .bool w1, .int .i64 c1, .int .i64 d1]) := Lib.hid ((Blk.new w _ [.bool w0, .int .i64 c0, .int .i64 d0, .bool w1, .int .i64 c1, .int .i64 d1]).alloc _)
  have HZ : Hid (Blk ((w.alloc (.cells #[.bool w0, .int .i64 c0, .int .i64 d0, .bool w1, .int .i64 c1, .int .i64 d1] 46)).alloc (.cells #[.bool false, .int .i64 0, .int .i64 0, .bool false, .int .i64 0, .int .i64 0] 46)) (w.heap.size + 1) 46 [.bool false, .int .i64 0, .int .i64 0, .bool false, .int .i64 0, .int .i64 0]) := Lib.hid (by
    have := Blk.new (w.alloc (.cells #[.bool w0, .int .i64 c0, .int .i64 d0, .bool w1, .int .i64 c1, .int .i64 d1] 46)) 46 [.bool false, .int .i64 0, .int .i64 0, .bool false, .int .i64 0, .int .i64 0]
    rwa [show (w.alloc (.cells #[.bool w0, .int .i64 c0, .int .i64 d0, .bool w1, .int .i64 c1, .int .i64 d1] 46)).heap.size = w.heap.size + 1 by simp] at this)
  have hB0 : Below w.heap.size w ((w.alloc (.cells #[.bool w0, .int .i64 c0, .int .i64 d0, .bool w1, .int .i64 c1, .int .i64 d1] 46)).alloc (.cells #[.bool false, .int .i64 0, .int .i64 0, .bool false, .int .i64 0, .int .i64 0] 46)) := ((Below.refl _ _).alloc (Nat.le_refl _) _).alloc (by simp) _
  go_enter Try.func20, Try.ntmps20
  go_wp2_with (refine wpList_load_row rfl 46 (.tmp 3) rfl w.heap.size rfl 46 #[.bool w0, .int .i64 c0, .int .i64 d0, .bool w1, .int .i64 c1, .int .i64 d1] (0, 0) (.array 2 45) HS.out Try.underlying46 rfl (by kernel_rfl) ?_)
  refine (right_is ⟨w0, c0, d0, w1, c1, d1⟩ _ _ hr).mono ?_; rintro e w1' ⟨rfl, hb1⟩
  have HS1 := Lib.hid (HS.out.later hb1)
  have HZ1 := Lib.hid (HZ.out.later hb1)
  have hB1 := hB0.trans (hb1.mono hB0.size)
  clear HS HZ hb1 hB0
  go_wp2_with (refine wpList_load_row rfl 46 (.tmp 3) rfl w.heap.size rfl 46 #[.bool w0, .int .i64 c0, .int .i64 d0, .bool w1, .int .i64 c1, .int .i64 d1] (0, 0) (.array 2 45) HS1.out Try.underlying46 rfl (by kernel_rfl) ?_)
  refine (cur_is ⟨w0, c0, d0, w1, c1, d1⟩ _ _ hc.out).mono ?_; rintro e w2 ⟨rfl, hb2⟩
  have HS2 := Lib.hid (HS1.out.later hb2)
  have HZ2 := Lib.hid (HZ1.out.later hb2)
  have hB2 := hB1.trans (hb2.mono hB1.size)
  clear HS1 HZ1 hb2 hB1
  go_wp2
  have e1 : ∀ z : LaterOf w2, z.w.cell? ⟨w.heap.size, 4, none⟩ = some (.int .i64 c1) := fun z => z.cell (HS2.out.cell rfl)
  refine wp_region_later (by kernel_rfl) (by kernel_rfl) ?_
  repeat (go_big_quiet_step (fail))
  refine wpQuiet_nil ?_; intro xw hw'; obtain ⟨xq, hw''⟩ := hw'; obtain ⟨xw0, xh⟩ := xq; change xw = xw0 at hw''; subst hw''
  have HS3 := Lib.hid (HS2.out.later xh)
  have HZ3 := Lib.hid (HZ2.out.later xh)
  have hB3 := hB2.trans (xh.mono hB2.size)
  clear HS2 HZ2 xh hB2 e1
  have u0 : xw.cell? ⟨w.heap.size, 0, none⟩ = some (.bool w0) := HS3.out.cell rfl
  have u1 : xw.cell? ⟨w.heap.size, 1, none⟩ = some (.int .i64 c0) := HS3.out.cell rfl
  have u2 : xw.cell? ⟨w.heap.size, 2, none⟩ = some (.int .i64 d0) := HS3.out.cell rfl
  have f0 := HS3.out.froz (k := 0)
  have f1 := HS3.out.froz (k := 1)
  have f2 := HS3.out.froz (k := 2)
  go_upto_region 10 with (fail)
  have HS4 := Lib.hid (((HS3.out.set (k := 0) (.bool true)).set (k := 1) (.int .i64 (c1 + 1))).set (k := 2) (.int .i64 data))
  have HZ4 := Lib.hid (((HZ3.out.other (g' := w.heap.size) (k := 0) (by omega) (.bool true)).other (g' := w.heap.size) (k := 1) (by omega) (.int .i64 (c1 + 1))).other (g' := w.heap.size) (k := 2) (by omega) (.int .i64 data))
  have hB4 := ((hB3.setCell (p := ⟨w.heap.size, 0, none⟩) (Nat.le_refl _) (.bool true)).setCell (p := ⟨w.heap.size, 1, none⟩) (Nat.le_refl _) (.int .i64 (c1 + 1))).setCell (p := ⟨w.heap.size, 2, none⟩) (Nat.le_refl _) (.int .i64 data)
  clear u0 u1 u2 f0 f1 f2 HS3 HZ3 hB3
  generalize (((xw.setCell ⟨w.heap.size, 0, none⟩ (.bool true)).setCell ⟨w.heap.size, 1, none⟩ (.int .i64 (c1 + 1))).setCell ⟨w.heap.size, 2, none⟩ (.int .i64 data)) = w4 at HS4 HZ4 hB4 ⊢
  have HS5 := HS4
  have HZ5 := HZ4
  have hB5 := hB4
  clear HS4 HZ4 hB4
  go_wp2_with (first
    | refine wpList_load_row rfl 46 (.tmp 3) rfl w.heap.size rfl 46 #[.bool true, .int .i64 (c1 + 1), .int .i64 data, .bool w1, .int .i64 c1, .int .i64 d1] (0, 0) (.array 2 45) HS5.out Try.underlying46 rfl (by kernel_rfl) ?_
    | refine wpList_store_row rfl 46 (.tmp 6) (.tmp 38) rfl (w.heap.size + 1) #[.bool true, .int .i64 (c1 + 1), .int .i64 data, .bool w1, .int .i64 c1, .int .i64 d1] rfl rfl 46 #[.bool false, .int .i64 0, .int .i64 0, .bool false, .int .i64 0, .int .i64 0] HZ5.out (by kernel_rfl) rfl (by simp [Value.oneCell']) ?_)
  have hld := (HZ5.out.row [.bool true, .int .i64 (c1 + 1), .int .i64 data, .bool w1, .int .i64 c1, .int .i64 d1]).load Try.underlying46 (by kernel_rfl)
  have hB9 := below_row hB5 (show w.heap.size ≤ w.heap.size + 1 by omega) [.bool true, .int .i64 (c1 + 1), .int .i64 data, .bool w1, .int .i64 c1, .int .i64 d1].toArray
  refine bodyPost_ret (v := .tuple #[.agg [.bool true, .int .i64 (c1 + 1), .int .i64 data, .bool w1, .int .i64 c1, .int .i64 d1].toArray, .int .i64 0]) ?_ rfl ?_
  · simp [results, Try.results20, asAddr, hld]
  · exact Ret.mk (pairT (t := ⟨true, c1 + 1, data, w1, c1, d1⟩) HE.out) hB9

theorem write_any (s : T) (data : Int) (broken : Bool) (w : World) : Calls Try.prog 20 #[s.val, .int .i64 data, .bool broken] w (Ret w (.tuple #[(writeE s data broken).1.val, .int .i64 (writeE s data broken).2])) := by
  obtain ⟨w0, c0, d0, w1, c1, d1⟩ := s
  cases hr : rightB ⟨w0, c0, d0, w1, c1, d1⟩ with
  | false => exact write_no w0 c0 d0 w1 c1 d1 data broken w hr trivial
  | true =>
    rcases cur_cases ⟨w0, c0, d0, w1, c1, d1⟩ with hc | hc | hc
    · by_cases hf : c0 = 1099511627776
      · exact write_full_z w0 c0 d0 w1 c1 d1 data broken w hr hc hf
      · cases broken with
        | true => exact write_z_true w0 c0 d0 w1 c1 d1 data w hr hc hf
        | false => exact write_z_false w0 c0 d0 w1 c1 d1 data w hr hc hf
    · by_cases hf : c1 = 1099511627776
      · exact write_full_o w0 c0 d0 w1 c1 d1 data broken w hr hc hf
      · cases broken with
        | true => exact write_o_true w0 c0 d0 w1 c1 d1 data w hr hc hf
        | false => exact write_o_false w0 c0 d0 w1 c1 d1 data w hr hc hf
    · cases broken with
      | true => exact write_m_true w0 c0 d0 w1 c1 d1 data w hr hc (by decide)
      | false => exact write_m_false w0 c0 d0 w1 c1 d1 data w hr hc (by decide)
end Twin
end Go.Proofs.Ytljdfkejhgaciaa
