/-
  Walks of the reference's KNewer and KWrite, by whole rows. Conditions: none.
-/
import Derived.Test.YtljdfkejhgaciaaTwinR
namespace Go.Proofs.Ytljdfkejhgaciaa
open Go.RowKit
set_option linter.unusedVariables false
namespace Twin

theorem kright_is (s : T) (b : Bool) (w : World) (h : rightB s = b) : Calls Try.prog 24 #[s.val] w (Ret w (.bool b)) := by subst h; exact kright_any s w
set_option maxHeartbeats 800000 in
theorem knewer_any (s : T) (w : World) : Calls Try.prog 23 #[s.val] w (Ret w (.int .i64 (cur s))) := by
  obtain ⟨w0, c0, d0, w1, c1, d1⟩ := s
  unfold T.val
  simp only
  by_cases h : c1 < c0
  all_goals
    cases w0 <;> cases w1
    all_goals
      go_enter Try.func23, Try.ntmps23
      go_wp2
      go_ret
      exact Ret.mk (int_eq (by simp [cur]; try omega)) (by repeat (first | with_reducible refine Below.setCell ?_ (by first | (simp; done) | (simp; omega)) _ | with_reducible assumption | with_reducible exact Below.refl _ _ | with_reducible refine Below.alloc ?_ (by first | omega | (simp; done) | (simp; omega)) _ | with_reducible refine Below.drew ?_))
theorem knewer_is (s : T) (k : Int) (w : World) (h : cur s = k) : Calls Try.prog 23 #[s.val] w (Ret w (.int .i64 k)) := by subst h; exact knewer_any s w

set_option maxHeartbeats 1600000 in
theorem kwrite_no (w0 : Bool) (c0 d0 : Int) (w1 : Bool) (c1 d1 : Int) (data : Int) (broken : Bool) (w : World) (hr : rightB ⟨w0, c0, d0, w1, c1, d1⟩ = false) (hcur : True) :
    Calls Try.prog 21 #[.agg #[.bool w0, .int .i64 c0, .int .i64 d0, .bool w1, .int .i64 c1, .int .i64 d1], .int .i64 data, .bool broken] w (Ret w (.tuple #[(writeE ⟨w0, c0, d0, w1, c1, d1⟩ data broken).1.val, .int .i64 (writeE ⟨w0, c0, d0, w1, c1, d1⟩ data broken).2])) := by
  have HE : Hid (writeE ⟨w0, c0, d0, w1, c1, d1⟩ data broken = (zero, 1)) := Lib.hid (by rw [writeE, hr]; rfl)
  have hc := Lib.hid hcur
  clear hcur
  have HS : Hid (Blk ((w.alloc (.cells #[.bool w0, .int .i64 c0, .int .i64 d0, .bool w1, .int .i64 c1, .int .i64 d1] 46)).alloc (.cells #[.bool false, .int .i64 0, .int .i64 0, .bool false, .int .i64 0, .int .i64 0] 46)) w.heap.size 46 [.bool w0, .int .i64 c0, .int .i64 d0, .bool w1, .int .i64 c1, .int .i64 d1]) := Lib.hid ((Blk.new w _ [.bool w0, .int .i64 c0, .int .i64 d0, .bool w1, .int .i64 c1, .int .i64 d1]).alloc _)
  have HZ : Hid (Blk ((w.alloc (.cells #[.bool w0, .int .i64 c0, .int .i64 d0, .bool w1, .int .i64 c1, .int .i64 d1] 46)).alloc (.cells #[.bool false, .int .i64 0, .int .i64 0, .bool false, .int .i64 0, .int .i64 0] 46)) (w.heap.size + 1) 46 [.bool false, .int .i64 0, .int .i64 0, .bool false, .int .i64 0, .int .i64 0]) := Lib.hid (by
    have := Blk.new (w.alloc (.cells #[.bool w0, .int .i64 c0, .int .i64 d0, .bool w1, .int .i64 c1, .int .i64 d1] 46)) 46 [.bool false, .int .i64 0, .int .i64 0, .bool false, .int .i64 0, .int .i64 0]
    rwa [show (w.alloc (.cells #[.bool w0, .int .i64 c0, .int .i64 d0, .bool w1, .int .i64 c1, .int .i64 d1] 46)).heap.size = w.heap.size + 1 by simp] at this)
  have hB0 : Below w.heap.size w ((w.alloc (.cells #[.bool w0, .int .i64 c0, .int .i64 d0, .bool w1, .int .i64 c1, .int .i64 d1] 46)).alloc (.cells #[.bool false, .int .i64 0, .int .i64 0, .bool false, .int .i64 0, .int .i64 0] 46)) := ((Below.refl _ _).alloc (Nat.le_refl _) _).alloc (by simp) _
  go_enter Try.func21, Try.ntmps21
  go_wp2_with (refine wpList_load_row rfl 46 (.tmp 3) rfl w.heap.size rfl 46 #[.bool w0, .int .i64 c0, .int .i64 d0, .bool w1, .int .i64 c1, .int .i64 d1] (0, 0) (.array 2 45) HS.out Try.underlying46 rfl (by kernel_rfl) ?_)
  refine (kright_is ⟨w0, c0, d0, w1, c1, d1⟩ _ _ hr).mono ?_; rintro e wa ⟨rfl, hb1⟩
  have HS1 := Lib.hid (HS.out.later hb1)
  have HZ1 := Lib.hid (HZ.out.later hb1)
  have hB1 := hB0.trans (hb1.mono hB0.size)
  clear HS HZ hb1 hB0
  go_wp2_with (refine wpList_store_row rfl 46 (.tmp 6) (.tmp 13) rfl (w.heap.size + 1) #[.bool false, .int .i64 0, .int .i64 0, .bool false, .int .i64 0, .int .i64 0] rfl rfl 46 #[.bool false, .int .i64 0, .int .i64 0, .bool false, .int .i64 0, .int .i64 0] HZ1.out (by kernel_rfl) rfl (by simp [Value.oneCell']) ?_)
  have hld := (HZ1.out.row [.bool false, .int .i64 0, .int .i64 0, .bool false, .int .i64 0, .int .i64 0]).load Try.underlying46 (by kernel_rfl)
  have hB9 := below_row hB1 (show w.heap.size ≤ w.heap.size + 1 by omega) [.bool false, .int .i64 0, .int .i64 0, .bool false, .int .i64 0, .int .i64 0].toArray
  refine bodyPost_ret (v := .tuple #[.agg [.bool false, .int .i64 0, .int .i64 0, .bool false, .int .i64 0, .int .i64 0].toArray, .int .i64 1]) ?_ rfl ?_
  · simp [results, Try.results21, asAddr, hld]
  · exact Ret.mk (pairT (t := zero) HE.out) hB9

set_option maxHeartbeats 1600000 in
theorem kwrite_m_true (w0 : Bool) (c0 d0 : Int) (w1 : Bool) (c1 d1 : Int) (data : Int) (w : World) (hr : rightB ⟨w0, c0, d0, w1, c1, d1⟩ = true) (hcur : cur ⟨w0, c0, d0, w1, c1, d1⟩ = -1) (hf : (0 : Int) ≠ 1099511627776) :
    Calls Try.prog 21 #[.agg #[.bool w0, .int .i64 c0, .int .i64 d0, .bool w1, .int .i64 c1, .int .i64 d1], .int .i64 data, .bool true] w (Ret w (.tuple #[(writeE ⟨w0, c0, d0, w1, c1, d1⟩ data true).1.val, .int .i64 (writeE ⟨w0, c0, d0, w1, c1, d1⟩ data true).2])) := by
  have hcnt : countOf ⟨w0, c0, d0, w1, c1, d1⟩ = 0 := by rw [countOf, hcur]; rfl
  have hbd := rightB_bd hr
  simp only at hbd
  obtain ⟨b0, b1, b2, b3⟩ := hbd
  have HE : Hid (writeE ⟨w0, c0, d0, w1, c1, d1⟩ data true = (⟨false, 0, 0, w1, c1, d1⟩, 0)) := Lib.hid (by rw [writeE, hr, if_pos rfl, hcnt, if_neg hf, hcur]; rfl)
  have ht : ¬ 1099511627776 < 1 := by omega
  clear hcnt hf
  have hc := Lib.hid hcur
  clear hcur
  have HS : Hid (Blk ((w.alloc (.cells #[.bool w0, .int .i64 c0, .int .i64 d0, .bool w1, .int .i64 c1, .int .i64 d1] 46)).alloc (.cells #[.bool false, .int .i64 0, .int .i64 0, .bool false, .int .i64 0, .int .i64 0] 46)) w.heap.size 46 [.bool w0, .int .i64 c0, .int .i64 d0, .bool w1, .int .i64 c1, .int .i64 d1]) := Lib.hid ((Blk.new w _ [.bool w0, .int .i64 c0, .int .i64 d0, .bool w1, .int .i64 c1, .int .i64 d1]).alloc _)
  have HZ : Hid (Blk ((w.alloc (.cells #[.bool w0, .int .i64 c0, .int .i64 d0, .bool w1, .int .i64 c1, .int .i64 d1] 46)).alloc (.cells #[.bool false, .int .i64 0, .int .i64 0, .bool false, .int .i64 0, .int .i64 0] 46)) (w.heap.size + 1) 46 [.bool false, .int .i64 0, .int .i64 0, .bool false, .int .i64 0, .int .i64 0]) := Lib.hid (by
    have := Blk.new (w.alloc (.cells #[.bool w0, .int .i64 c0, .int .i64 d0, .bool w1, .int .i64 c1, .int .i64 d1] 46)) 46 [.bool false, .int .i64 0, .int .i64 0, .bool false, .int .i64 0, .int .i64 0]
    rwa [show (w.alloc (.cells #[.bool w0, .int .i64 c0, .int .i64 d0, .bool w1, .int .i64 c1, .int .i64 d1] 46)).heap.size = w.heap.size + 1 by simp] at this)
  have hB0 : Below w.heap.size w ((w.alloc (.cells #[.bool w0, .int .i64 c0, .int .i64 d0, .bool w1, .int .i64 c1, .int .i64 d1] 46)).alloc (.cells #[.bool false, .int .i64 0, .int .i64 0, .bool false, .int .i64 0, .int .i64 0] 46)) := ((Below.refl _ _).alloc (Nat.le_refl _) _).alloc (by simp) _
  go_enter Try.func21, Try.ntmps21
  go_wp2_with (refine wpList_load_row rfl 46 (.tmp 3) rfl w.heap.size rfl 46 #[.bool w0, .int .i64 c0, .int .i64 d0, .bool w1, .int .i64 c1, .int .i64 d1] (0, 0) (.array 2 45) HS.out Try.underlying46 rfl (by kernel_rfl) ?_)
  refine (kright_is ⟨w0, c0, d0, w1, c1, d1⟩ _ _ hr).mono ?_; rintro e wa ⟨rfl, hb1⟩
  have HS1 := Lib.hid (HS.out.later hb1)
  have HZ1 := Lib.hid (HZ.out.later hb1)
  have hB1 := hB0.trans (hb1.mono hB0.size)
  clear HS HZ hb1 hB0
  have HX1 := Lib.hid (Blk.new wa 45 [.bool true, .int .i64 1, .int .i64 data])
  have HS2 := Lib.hid (HS1.out.alloc (.cells #[.bool true, .int .i64 1, .int .i64 data] 45))
  have HZ2 := Lib.hid (HZ1.out.alloc (.cells #[.bool true, .int .i64 1, .int .i64 data] 45))
  have hB2 := hB1.alloc hB1.size (.cells #[.bool true, .int .i64 1, .int .i64 data] 45)
  have hz1 := HZ1.out.lt
  go_wp2_with (refine wpList_load_row rfl 46 (.tmp 3) rfl w.heap.size rfl 46 #[.bool w0, .int .i64 c0, .int .i64 d0, .bool w1, .int .i64 c1, .int .i64 d1] (0, 0) (.array 2 45) HS2.out Try.underlying46 rfl (by kernel_rfl) ?_)
  refine (knewer_is ⟨w0, c0, d0, w1, c1, d1⟩ _ _ hc.out).mono ?_; rintro e wb ⟨rfl, hb2⟩
  have HS3 := Lib.hid (HS2.out.later hb2)
  have HZ3 := Lib.hid (HZ2.out.later hb2)
  have HX3 := Lib.hid (HX1.out.later hb2)
  have hB3 := hB2.trans (hb2.mono hB2.size)
  have hx3 : w.heap.size ≤ wa.heap.size := hB1.size
  clear HS1 HZ1 HX1 HS2 HZ2 hB2 hb2 hB1
  generalize wa.heap.size = gx at HX3 hx3 hz1 ⊢
  have HS5 := HS3
  have HZ5 := HZ3
  have HX5 := HX3
  have hB5 := hB3
  clear HS3 HZ3 HX3 hB3
  have v0 : wb.cell? ⟨gx, 0, none⟩ = some (.bool true) := HX5.out.cell rfl
  have v1 : wb.cell? ⟨gx, 1, none⟩ = some (.int .i64 (1)) := HX5.out.cell rfl
  have v2 : wb.cell? ⟨gx, 2, none⟩ = some (.int .i64 data) := HX5.out.cell rfl
  have f0 := HX5.out.froz (k := 0)
  have f1 := HX5.out.froz (k := 1)
  have f2 := HX5.out.froz (k := 2)
  go_upto_region 11 with (fail)
  have HX6 : Hid (Blk (((wb.setCell ⟨gx, 0, none⟩ (.bool false)).setCell ⟨gx, 1, none⟩ (.int .i64 0)).setCell ⟨gx, 2, none⟩ (.int .i64 0)) gx 45 [.bool false, .int .i64 0, .int .i64 0]) := Lib.hid (((HX5.out.set (k := 0) (.bool false)).set (k := 1) (.int .i64 0)).set (k := 2) (.int .i64 0))
  have HS6 := Lib.hid (((HS5.out.other (g' := gx) (k := 0) (by omega) (.bool false)).other (g' := gx) (k := 1) (by omega) (.int .i64 0)).other (g' := gx) (k := 2) (by omega) (.int .i64 0))
  have HZ6 := Lib.hid (((HZ5.out.other (g' := gx) (k := 0) (by omega) (.bool false)).other (g' := gx) (k := 1) (by omega) (.int .i64 0)).other (g' := gx) (k := 2) (by omega) (.int .i64 0))
  have hB6 := ((hB5.setCell (p := ⟨gx, 0, none⟩) hx3 (.bool false)).setCell (p := ⟨gx, 1, none⟩) hx3 (.int .i64 0)).setCell (p := ⟨gx, 2, none⟩) hx3 (.int .i64 0)
  clear v0 v1 v2 f0 f1 f2 HX5 HS5 HZ5 hB5
  generalize (((wb.setCell ⟨gx, 0, none⟩ (.bool false)).setCell ⟨gx, 1, none⟩ (.int .i64 0)).setCell ⟨gx, 2, none⟩ (.int .i64 0)) = w6 at HX6 HS6 HZ6 hB6 ⊢
  have v0 : w6.cell? ⟨gx, 0, none⟩ = some (.bool false) := HX6.out.cell rfl
  have v1 : w6.cell? ⟨gx, 1, none⟩ = some (.int .i64 0) := HX6.out.cell rfl
  have v2 : w6.cell? ⟨gx, 2, none⟩ = some (.int .i64 0) := HX6.out.cell rfl
  have s0 : w6.cell? ⟨w.heap.size, 3, none⟩ = some (.bool w1) := HS6.out.cell rfl
  have s1 : w6.cell? ⟨w.heap.size, 4, none⟩ = some (.int .i64 c1) := HS6.out.cell rfl
  have s2 : w6.cell? ⟨w.heap.size, 5, none⟩ = some (.int .i64 d1) := HS6.out.cell rfl
  go_wp2_with (refine wpList_store_row rfl 46 (.tmp 6) (.tmp 43) rfl (w.heap.size + 1) #[.bool false, .int .i64 0, .int .i64 0, .bool w1, .int .i64 c1, .int .i64 d1] rfl rfl 46 #[.bool false, .int .i64 0, .int .i64 0, .bool false, .int .i64 0, .int .i64 0] HZ6.out (by kernel_rfl) rfl (by simp [Value.oneCell']) ?_)
  have hld := (HZ6.out.row [.bool false, .int .i64 0, .int .i64 0, .bool w1, .int .i64 c1, .int .i64 d1]).load Try.underlying46 (by kernel_rfl)
  have hB9 := below_row hB6 (show w.heap.size ≤ w.heap.size + 1 by omega) [.bool false, .int .i64 0, .int .i64 0, .bool w1, .int .i64 c1, .int .i64 d1].toArray
  refine bodyPost_ret (v := .tuple #[.agg [.bool false, .int .i64 0, .int .i64 0, .bool w1, .int .i64 c1, .int .i64 d1].toArray, .int .i64 0]) ?_ rfl ?_
  · simp [results, Try.results21, asAddr, hld]
  · exact Ret.mk (pairT (t := ⟨false, 0, 0, w1, c1, d1⟩) HE.out) hB9

set_option maxHeartbeats 1600000 in
theorem kwrite_m_false (w0 : Bool) (c0 d0 : Int) (w1 : Bool) (c1 d1 : Int) (data : Int) (w : World) (hr : rightB ⟨w0, c0, d0, w1, c1, d1⟩ = true) (hcur : cur ⟨w0, c0, d0, w1, c1, d1⟩ = -1) (hf : (0 : Int) ≠ 1099511627776) :
    Calls Try.prog 21 #[.agg #[.bool w0, .int .i64 c0, .int .i64 d0, .bool w1, .int .i64 c1, .int .i64 d1], .int .i64 data, .bool false] w (Ret w (.tuple #[(writeE ⟨w0, c0, d0, w1, c1, d1⟩ data false).1.val, .int .i64 (writeE ⟨w0, c0, d0, w1, c1, d1⟩ data false).2])) := by
  have hcnt : countOf ⟨w0, c0, d0, w1, c1, d1⟩ = 0 := by rw [countOf, hcur]; rfl
  have hbd := rightB_bd hr
  simp only at hbd
  obtain ⟨b0, b1, b2, b3⟩ := hbd
  have HE : Hid (writeE ⟨w0, c0, d0, w1, c1, d1⟩ data false = (⟨true, 1, data, w1, c1, d1⟩, 0)) := Lib.hid (by rw [writeE, hr, if_pos rfl, hcnt, if_neg hf, hcur]; rfl)
  have ht : ¬ 1099511627776 < 1 := by omega
  clear hcnt hf
  have hc := Lib.hid hcur
  clear hcur
  have HS : Hid (Blk ((w.alloc (.cells #[.bool w0, .int .i64 c0, .int .i64 d0, .bool w1, .int .i64 c1, .int .i64 d1] 46)).alloc (.cells #[.bool false, .int .i64 0, .int .i64 0, .bool false, .int .i64 0, .int .i64 0] 46)) w.heap.size 46 [.bool w0, .int .i64 c0, .int .i64 d0, .bool w1, .int .i64 c1, .int .i64 d1]) := Lib.hid ((Blk.new w _ [.bool w0, .int .i64 c0, .int .i64 d0, .bool w1, .int .i64 c1, .int .i64 d1]).alloc _)
  have HZ : Hid (Blk ((w.alloc (.cells #[.bool w0, .int .i64 c0, .int .i64 d0, .bool w1, .int .i64 c1, .int .i64 d1] 46)).alloc (.cells #[.bool false, .int .i64 0, .int .i64 0, .bool false, .int .i64 0, .int .i64 0] 46)) (w.heap.size + 1) 46 [.bool false, .int .i64 0, .int .i64 0, .bool false, .int .i64 0, .int .i64 0]) := Lib.hid (by
    have := Blk.new (w.alloc (.cells #[.bool w0, .int .i64 c0, .int .i64 d0, .bool w1, .int .i64 c1, .int .i64 d1] 46)) 46 [.bool false, .int .i64 0, .int .i64 0, .bool false, .int .i64 0, .int .i64 0]
    rwa [show (w.alloc (.cells #[.bool w0, .int .i64 c0, .int .i64 d0, .bool w1, .int .i64 c1, .int .i64 d1] 46)).heap.size = w.heap.size + 1 by simp] at this)
  have hB0 : Below w.heap.size w ((w.alloc (.cells #[.bool w0, .int .i64 c0, .int .i64 d0, .bool w1, .int .i64 c1, .int .i64 d1] 46)).alloc (.cells #[.bool false, .int .i64 0, .int .i64 0, .bool false, .int .i64 0, .int .i64 0] 46)) := ((Below.refl _ _).alloc (Nat.le_refl _) _).alloc (by simp) _
  go_enter Try.func21, Try.ntmps21
  go_wp2_with (refine wpList_load_row rfl 46 (.tmp 3) rfl w.heap.size rfl 46 #[.bool w0, .int .i64 c0, .int .i64 d0, .bool w1, .int .i64 c1, .int .i64 d1] (0, 0) (.array 2 45) HS.out Try.underlying46 rfl (by kernel_rfl) ?_)
  refine (kright_is ⟨w0, c0, d0, w1, c1, d1⟩ _ _ hr).mono ?_; rintro e wa ⟨rfl, hb1⟩
  have HS1 := Lib.hid (HS.out.later hb1)
  have HZ1 := Lib.hid (HZ.out.later hb1)
  have hB1 := hB0.trans (hb1.mono hB0.size)
  clear HS HZ hb1 hB0
  have HX1 := Lib.hid (Blk.new wa 45 [.bool true, .int .i64 1, .int .i64 data])
  have HS2 := Lib.hid (HS1.out.alloc (.cells #[.bool true, .int .i64 1, .int .i64 data] 45))
  have HZ2 := Lib.hid (HZ1.out.alloc (.cells #[.bool true, .int .i64 1, .int .i64 data] 45))
  have hB2 := hB1.alloc hB1.size (.cells #[.bool true, .int .i64 1, .int .i64 data] 45)
  have hz1 := HZ1.out.lt
  go_wp2_with (refine wpList_load_row rfl 46 (.tmp 3) rfl w.heap.size rfl 46 #[.bool w0, .int .i64 c0, .int .i64 d0, .bool w1, .int .i64 c1, .int .i64 d1] (0, 0) (.array 2 45) HS2.out Try.underlying46 rfl (by kernel_rfl) ?_)
  refine (knewer_is ⟨w0, c0, d0, w1, c1, d1⟩ _ _ hc.out).mono ?_; rintro e wb ⟨rfl, hb2⟩
  have HS3 := Lib.hid (HS2.out.later hb2)
  have HZ3 := Lib.hid (HZ2.out.later hb2)
  have HX3 := Lib.hid (HX1.out.later hb2)
  have hB3 := hB2.trans (hb2.mono hB2.size)
  have hx3 : w.heap.size ≤ wa.heap.size := hB1.size
  clear HS1 HZ1 HX1 HS2 HZ2 hB2 hb2 hB1
  generalize wa.heap.size = gx at HX3 hx3 hz1 ⊢
  have HS5 := HS3
  have HZ5 := HZ3
  have HX5 := HX3
  have hB5 := hB3
  clear HS3 HZ3 HX3 hB3
  have v0 : wb.cell? ⟨gx, 0, none⟩ = some (.bool true) := HX5.out.cell rfl
  have v1 : wb.cell? ⟨gx, 1, none⟩ = some (.int .i64 (1)) := HX5.out.cell rfl
  have v2 : wb.cell? ⟨gx, 2, none⟩ = some (.int .i64 data) := HX5.out.cell rfl
  have HX6 := HX5
  have HS6 := HS5
  have HZ6 := HZ5
  have hB6 := hB5
  clear HX5 HS5 HZ5 hB5
  have s0 : wb.cell? ⟨w.heap.size, 3, none⟩ = some (.bool w1) := HS6.out.cell rfl
  have s1 : wb.cell? ⟨w.heap.size, 4, none⟩ = some (.int .i64 c1) := HS6.out.cell rfl
  have s2 : wb.cell? ⟨w.heap.size, 5, none⟩ = some (.int .i64 d1) := HS6.out.cell rfl
  go_wp2_with (refine wpList_store_row rfl 46 (.tmp 6) (.tmp 43) rfl (w.heap.size + 1) #[.bool true, .int .i64 (1), .int .i64 data, .bool w1, .int .i64 c1, .int .i64 d1] rfl rfl 46 #[.bool false, .int .i64 0, .int .i64 0, .bool false, .int .i64 0, .int .i64 0] HZ6.out (by kernel_rfl) rfl (by simp [Value.oneCell']) ?_)
  have hld := (HZ6.out.row [.bool true, .int .i64 (1), .int .i64 data, .bool w1, .int .i64 c1, .int .i64 d1]).load Try.underlying46 (by kernel_rfl)
  have hB9 := below_row hB6 (show w.heap.size ≤ w.heap.size + 1 by omega) [.bool true, .int .i64 (1), .int .i64 data, .bool w1, .int .i64 c1, .int .i64 d1].toArray
  refine bodyPost_ret (v := .tuple #[.agg [.bool true, .int .i64 (1), .int .i64 data, .bool w1, .int .i64 c1, .int .i64 d1].toArray, .int .i64 0]) ?_ rfl ?_
  · simp [results, Try.results21, asAddr, hld]
  · exact Ret.mk (pairT (t := ⟨true, 1, data, w1, c1, d1⟩) HE.out) hB9

set_option maxHeartbeats 1600000 in
theorem kwrite_full_z (w0 : Bool) (c0 d0 : Int) (w1 : Bool) (c1 d1 : Int) (data : Int) (broken : Bool) (w : World) (hr : rightB ⟨w0, c0, d0, w1, c1, d1⟩ = true) (hcur : cur ⟨w0, c0, d0, w1, c1, d1⟩ = 0) (hf : c0 = 1099511627776) :
    Calls Try.prog 21 #[.agg #[.bool w0, .int .i64 c0, .int .i64 d0, .bool w1, .int .i64 c1, .int .i64 d1], .int .i64 data, .bool broken] w (Ret w (.tuple #[(writeE ⟨w0, c0, d0, w1, c1, d1⟩ data broken).1.val, .int .i64 (writeE ⟨w0, c0, d0, w1, c1, d1⟩ data broken).2])) := by
  have hcnt : countOf ⟨w0, c0, d0, w1, c1, d1⟩ = c0 := by rw [countOf, hcur]; rfl
  have hbd := rightB_bd hr
  simp only at hbd
  obtain ⟨b0, b1, b2, b3⟩ := hbd
  have HE : Hid (writeE ⟨w0, c0, d0, w1, c1, d1⟩ data broken = (zero, 4)) := Lib.hid (by rw [writeE, hr, if_pos rfl, hcnt, if_pos hf])
  have ht : 1099511627776 < 1 + c0 := by omega
  clear hcnt hf
  have hc := Lib.hid hcur
  clear hcur
  have HS : Hid (Blk ((w.alloc (.cells #[.bool w0, .int .i64 c0, .int .i64 d0, .bool w1, .int .i64 c1, .int .i64 d1] 46)).alloc (.cells #[.bool false, .int .i64 0, .int .i64 0, .bool false, .int .i64 0, .int .i64 0] 46)) w.heap.size 46 [.bool w0, .int .i64 c0, .int .i64 d0, .bool w1, .int .i64 c1, .int .i64 d1]) := Lib.hid ((Blk.new w _ [.bool w0, .int .i64 c0, .int .i64 d0, .bool w1, .int .i64 c1, .int .i64 d1]).alloc _)
  have HZ : Hid (Blk ((w.alloc (.cells #[.bool w0, .int .i64 c0, .int .i64 d0, .bool w1, .int .i64 c1, .int .i64 d1] 46)).alloc (.cells #[.bool false, .int .i64 0, .int .i64 0, .bool false, .int .i64 0, .int .i64 0] 46)) (w.heap.size + 1) 46 [.bool false, .int .i64 0, .int .i64 0, .bool false, .int .i64 0, .int .i64 0]) := Lib.hid (by
    have := Blk.new (w.alloc (.cells #[.bool w0, .int .i64 c0, .int .i64 d0, .bool w1, .int .i64 c1, .int .i64 d1] 46)) 46 [.bool false, .int .i64 0, .int .i64 0, .bool false, .int .i64 0, .int .i64 0]
    rwa [show (w.alloc (.cells #[.bool w0, .int .i64 c0, .int .i64 d0, .bool w1, .int .i64 c1, .int .i64 d1] 46)).heap.size = w.heap.size + 1 by simp] at this)
  have hB0 : Below w.heap.size w ((w.alloc (.cells #[.bool w0, .int .i64 c0, .int .i64 d0, .bool w1, .int .i64 c1, .int .i64 d1] 46)).alloc (.cells #[.bool false, .int .i64 0, .int .i64 0, .bool false, .int .i64 0, .int .i64 0] 46)) := ((Below.refl _ _).alloc (Nat.le_refl _) _).alloc (by simp) _
  go_enter Try.func21, Try.ntmps21
  go_wp2_with (refine wpList_load_row rfl 46 (.tmp 3) rfl w.heap.size rfl 46 #[.bool w0, .int .i64 c0, .int .i64 d0, .bool w1, .int .i64 c1, .int .i64 d1] (0, 0) (.array 2 45) HS.out Try.underlying46 rfl (by kernel_rfl) ?_)
  refine (kright_is ⟨w0, c0, d0, w1, c1, d1⟩ _ _ hr).mono ?_; rintro e wa ⟨rfl, hb1⟩
  have HS1 := Lib.hid (HS.out.later hb1)
  have HZ1 := Lib.hid (HZ.out.later hb1)
  have hB1 := hB0.trans (hb1.mono hB0.size)
  clear HS HZ hb1 hB0
  have HX1 := Lib.hid (Blk.new wa 45 [.bool true, .int .i64 1, .int .i64 data])
  have HS2 := Lib.hid (HS1.out.alloc (.cells #[.bool true, .int .i64 1, .int .i64 data] 45))
  have HZ2 := Lib.hid (HZ1.out.alloc (.cells #[.bool true, .int .i64 1, .int .i64 data] 45))
  have hB2 := hB1.alloc hB1.size (.cells #[.bool true, .int .i64 1, .int .i64 data] 45)
  have hz1 := HZ1.out.lt
  go_wp2_with (refine wpList_load_row rfl 46 (.tmp 3) rfl w.heap.size rfl 46 #[.bool w0, .int .i64 c0, .int .i64 d0, .bool w1, .int .i64 c1, .int .i64 d1] (0, 0) (.array 2 45) HS2.out Try.underlying46 rfl (by kernel_rfl) ?_)
  refine (knewer_is ⟨w0, c0, d0, w1, c1, d1⟩ _ _ hc.out).mono ?_; rintro e wb ⟨rfl, hb2⟩
  have HS3 := Lib.hid (HS2.out.later hb2)
  have HZ3 := Lib.hid (HZ2.out.later hb2)
  have HX3 := Lib.hid (HX1.out.later hb2)
  have hB3 := hB2.trans (hb2.mono hB2.size)
  have hx3 : w.heap.size ≤ wa.heap.size := hB1.size
  clear HS1 HZ1 HX1 HS2 HZ2 hB2 hb2 hB1
  generalize wa.heap.size = gx at HX3 hx3 hz1 ⊢
  go_wp2
  have e1 : ∀ z : LaterOf wb, z.w.cell? ⟨w.heap.size, 1, none⟩ = some (.int .i64 c0) := fun z => z.cell (HS3.out.cell rfl)
  have e2 : ∀ z : LaterOf wb, z.w.cell? ⟨gx, 1, none⟩ = some (.int .i64 1) := fun z => z.cell (HX3.out.cell rfl)
  (refine wp_region_tail 8 (by kernel_rfl) (by kernel_rfl) ?_; simp only [List.take_succ_cons, List.take_zero, List.drop_succ_cons, List.drop_zero]; repeat (go_big_quiet_step (fail)))
  refine wpQuiet_nil ?_; intro xw hw'; obtain ⟨xq, hw''⟩ := hw'; obtain ⟨xw0, xh⟩ := xq; change xw = xw0 at hw''; subst hw''
  have HX4 := Lib.hid (HX3.out.later xh)
  have u1 := HX4.out.cell (k := 1) rfl
  have f1 := HX4.out.froz (k := 1)
  have HS5 := Lib.hid ((HS3.out.later xh).other (g' := gx) (k := 1) (by omega) (.int .i64 (1 + c0)))
  have HZ5 := Lib.hid ((HZ3.out.later xh).other (g' := gx) (k := 1) (by omega) (.int .i64 (1 + c0)))
  have HX5 : Hid (Blk (xw.setCell ⟨gx, 1, none⟩ (.int .i64 (1 + c0))) gx 45 [.bool true, .int .i64 (1 + c0), .int .i64 data]) := Lib.hid (HX4.out.set (k := 1) (.int .i64 (1 + c0)))
  have hB5 := (hB3.trans (xh.mono hB3.size)).setCell (p := ⟨gx, 1, none⟩) hx3 (.int .i64 (1 + c0))
  clear HS3 HZ3 HX3 hB3 e1 e2 xh
  go_upto_region 7 with (fail)
  clear u1 f1 HX4
  generalize xw.setCell ⟨gx, 1, none⟩ (.int .i64 (1 + c0)) = w5 at HS5 HZ5 HX5 hB5 ⊢
  have v0 : w5.cell? ⟨gx, 0, none⟩ = some (.bool true) := HX5.out.cell rfl
  have v1 : w5.cell? ⟨gx, 1, none⟩ = some (.int .i64 (1 + c0)) := HX5.out.cell rfl
  have v2 : w5.cell? ⟨gx, 2, none⟩ = some (.int .i64 data) := HX5.out.cell rfl
  go_wp2_with (refine wpList_store_row rfl 46 (.tmp 6) (.tmp 31) rfl (w.heap.size + 1) #[.bool false, .int .i64 0, .int .i64 0, .bool false, .int .i64 0, .int .i64 0] rfl rfl 46 #[.bool false, .int .i64 0, .int .i64 0, .bool false, .int .i64 0, .int .i64 0] HZ5.out (by kernel_rfl) rfl (by simp [Value.oneCell']) ?_)
  have hld := (HZ5.out.row [.bool false, .int .i64 0, .int .i64 0, .bool false, .int .i64 0, .int .i64 0]).load Try.underlying46 (by kernel_rfl)
  have hB9 := below_row hB5 (show w.heap.size ≤ w.heap.size + 1 by omega) [.bool false, .int .i64 0, .int .i64 0, .bool false, .int .i64 0, .int .i64 0].toArray
  refine bodyPost_ret (v := .tuple #[.agg [.bool false, .int .i64 0, .int .i64 0, .bool false, .int .i64 0, .int .i64 0].toArray, .int .i64 4]) ?_ rfl ?_
  · simp [results, Try.results21, asAddr, hld]
  · exact Ret.mk (pairT (t := zero) HE.out) hB9

set_option maxHeartbeats 1600000 in
theorem kwrite_z_true (w0 : Bool) (c0 d0 : Int) (w1 : Bool) (c1 d1 : Int) (data : Int) (w : World) (hr : rightB ⟨w0, c0, d0, w1, c1, d1⟩ = true) (hcur : cur ⟨w0, c0, d0, w1, c1, d1⟩ = 0) (hf : (c0 : Int) ≠ 1099511627776) :
    Calls Try.prog 21 #[.agg #[.bool w0, .int .i64 c0, .int .i64 d0, .bool w1, .int .i64 c1, .int .i64 d1], .int .i64 data, .bool true] w (Ret w (.tuple #[(writeE ⟨w0, c0, d0, w1, c1, d1⟩ data true).1.val, .int .i64 (writeE ⟨w0, c0, d0, w1, c1, d1⟩ data true).2])) := by
  have hcnt : countOf ⟨w0, c0, d0, w1, c1, d1⟩ = c0 := by rw [countOf, hcur]; rfl
  have hbd := rightB_bd hr
  simp only at hbd
  obtain ⟨b0, b1, b2, b3⟩ := hbd
  have HE : Hid (writeE ⟨w0, c0, d0, w1, c1, d1⟩ data true = (⟨w0, c0, d0, false, 0, 0⟩, 0)) := Lib.hid (by rw [writeE, hr, if_pos rfl, hcnt, if_neg hf, hcur]; rfl)
  have ht : ¬ 1099511627776 < 1 + c0 := by omega
  clear hcnt hf
  have hc := Lib.hid hcur
  clear hcur
  have HS : Hid (Blk ((w.alloc (.cells #[.bool w0, .int .i64 c0, .int .i64 d0, .bool w1, .int .i64 c1, .int .i64 d1] 46)).alloc (.cells #[.bool false, .int .i64 0, .int .i64 0, .bool false, .int .i64 0, .int .i64 0] 46)) w.heap.size 46 [.bool w0, .int .i64 c0, .int .i64 d0, .bool w1, .int .i64 c1, .int .i64 d1]) := Lib.hid ((Blk.new w _ [.bool w0, .int .i64 c0, .int .i64 d0, .bool w1, .int .i64 c1, .int .i64 d1]).alloc _)
  have HZ : Hid (Blk ((w.alloc (.cells #[.bool w0, .int .i64 c0, .int .i64 d0, .bool w1, .int .i64 c1, .int .i64 d1] 46)).alloc (.cells #[.bool false, .int .i64 0, .int .i64 0, .bool false, .int .i64 0, .int .i64 0] 46)) (w.heap.size + 1) 46 [.bool false, .int .i64 0, .int .i64 0, .bool false, .int .i64 0, .int .i64 0]) := Lib.hid (by
    have := Blk.new (w.alloc (.cells #[.bool w0, .int .i64 c0, .int .i64 d0, .bool w1, .int .i64 c1, .int .i64 d1] 46)) 46 [.bool false, .int .i64 0, .int .i64 0, .bool false, .int .i64 0, .int .i64 0]
    rwa [show (w.alloc (.cells #[.bool w0, .int .i64 c0, .int .i64 d0, .bool w1, .int .i64 c1, .int .i64 d1] 46)).heap.size = w.heap.size + 1 by simp] at this)
  have hB0 : Below w.heap.size w ((w.alloc (.cells #[.bool w0, .int .i64 c0, .int .i64 d0, .bool w1, .int .i64 c1, .int .i64 d1] 46)).alloc (.cells #[.bool false, .int .i64 0, .int .i64 0, .bool false, .int .i64 0, .int .i64 0] 46)) := ((Below.refl _ _).alloc (Nat.le_refl _) _).alloc (by simp) _
  go_enter Try.func21, Try.ntmps21
  go_wp2_with (refine wpList_load_row rfl 46 (.tmp 3) rfl w.heap.size rfl 46 #[.bool w0, .int .i64 c0, .int .i64 d0, .bool w1, .int .i64 c1, .int .i64 d1] (0, 0) (.array 2 45) HS.out Try.underlying46 rfl (by kernel_rfl) ?_)
  refine (kright_is ⟨w0, c0, d0, w1, c1, d1⟩ _ _ hr).mono ?_; rintro e wa ⟨rfl, hb1⟩
  have HS1 := Lib.hid (HS.out.later hb1)
  have HZ1 := Lib.hid (HZ.out.later hb1)
  have hB1 := hB0.trans (hb1.mono hB0.size)
  clear HS HZ hb1 hB0
  have HX1 := Lib.hid (Blk.new wa 45 [.bool true, .int .i64 1, .int .i64 data])
  have HS2 := Lib.hid (HS1.out.alloc (.cells #[.bool true, .int .i64 1, .int .i64 data] 45))
  have HZ2 := Lib.hid (HZ1.out.alloc (.cells #[.bool true, .int .i64 1, .int .i64 data] 45))
  have hB2 := hB1.alloc hB1.size (.cells #[.bool true, .int .i64 1, .int .i64 data] 45)
  have hz1 := HZ1.out.lt
  go_wp2_with (refine wpList_load_row rfl 46 (.tmp 3) rfl w.heap.size rfl 46 #[.bool w0, .int .i64 c0, .int .i64 d0, .bool w1, .int .i64 c1, .int .i64 d1] (0, 0) (.array 2 45) HS2.out Try.underlying46 rfl (by kernel_rfl) ?_)
  refine (knewer_is ⟨w0, c0, d0, w1, c1, d1⟩ _ _ hc.out).mono ?_; rintro e wb ⟨rfl, hb2⟩
  have HS3 := Lib.hid (HS2.out.later hb2)
  have HZ3 := Lib.hid (HZ2.out.later hb2)
  have HX3 := Lib.hid (HX1.out.later hb2)
  have hB3 := hB2.trans (hb2.mono hB2.size)
  have hx3 : w.heap.size ≤ wa.heap.size := hB1.size
  clear HS1 HZ1 HX1 HS2 HZ2 hB2 hb2 hB1
  generalize wa.heap.size = gx at HX3 hx3 hz1 ⊢
  go_wp2
  have e1 : ∀ z : LaterOf wb, z.w.cell? ⟨w.heap.size, 1, none⟩ = some (.int .i64 c0) := fun z => z.cell (HS3.out.cell rfl)
  have e2 : ∀ z : LaterOf wb, z.w.cell? ⟨gx, 1, none⟩ = some (.int .i64 1) := fun z => z.cell (HX3.out.cell rfl)
  (refine wp_region_tail 8 (by kernel_rfl) (by kernel_rfl) ?_; simp only [List.take_succ_cons, List.take_zero, List.drop_succ_cons, List.drop_zero]; repeat (go_big_quiet_step (fail)))
  refine wpQuiet_nil ?_; intro xw hw'; obtain ⟨xq, hw''⟩ := hw'; obtain ⟨xw0, xh⟩ := xq; change xw = xw0 at hw''; subst hw''
  have HX4 := Lib.hid (HX3.out.later xh)
  have u1 := HX4.out.cell (k := 1) rfl
  have f1 := HX4.out.froz (k := 1)
  have HS5 := Lib.hid ((HS3.out.later xh).other (g' := gx) (k := 1) (by omega) (.int .i64 (1 + c0)))
  have HZ5 := Lib.hid ((HZ3.out.later xh).other (g' := gx) (k := 1) (by omega) (.int .i64 (1 + c0)))
  have HX5 : Hid (Blk (xw.setCell ⟨gx, 1, none⟩ (.int .i64 (1 + c0))) gx 45 [.bool true, .int .i64 (1 + c0), .int .i64 data]) := Lib.hid (HX4.out.set (k := 1) (.int .i64 (1 + c0)))
  have hB5 := (hB3.trans (xh.mono hB3.size)).setCell (p := ⟨gx, 1, none⟩) hx3 (.int .i64 (1 + c0))
  clear HS3 HZ3 HX3 hB3 e1 e2 xh
  go_upto_region 7 with (fail)
  clear u1 f1 HX4
  generalize xw.setCell ⟨gx, 1, none⟩ (.int .i64 (1 + c0)) = w5 at HS5 HZ5 HX5 hB5 ⊢
  have v0 : w5.cell? ⟨gx, 0, none⟩ = some (.bool true) := HX5.out.cell rfl
  have v1 : w5.cell? ⟨gx, 1, none⟩ = some (.int .i64 (1 + c0)) := HX5.out.cell rfl
  have v2 : w5.cell? ⟨gx, 2, none⟩ = some (.int .i64 data) := HX5.out.cell rfl
  have f0 := HX5.out.froz (k := 0)
  have f1 := HX5.out.froz (k := 1)
  have f2 := HX5.out.froz (k := 2)
  go_upto_region 11 with (fail)
  have HX6 : Hid (Blk (((w5.setCell ⟨gx, 0, none⟩ (.bool false)).setCell ⟨gx, 1, none⟩ (.int .i64 0)).setCell ⟨gx, 2, none⟩ (.int .i64 0)) gx 45 [.bool false, .int .i64 0, .int .i64 0]) := Lib.hid (((HX5.out.set (k := 0) (.bool false)).set (k := 1) (.int .i64 0)).set (k := 2) (.int .i64 0))
  have HS6 := Lib.hid (((HS5.out.other (g' := gx) (k := 0) (by omega) (.bool false)).other (g' := gx) (k := 1) (by omega) (.int .i64 0)).other (g' := gx) (k := 2) (by omega) (.int .i64 0))
  have HZ6 := Lib.hid (((HZ5.out.other (g' := gx) (k := 0) (by omega) (.bool false)).other (g' := gx) (k := 1) (by omega) (.int .i64 0)).other (g' := gx) (k := 2) (by omega) (.int .i64 0))
  have hB6 := ((hB5.setCell (p := ⟨gx, 0, none⟩) hx3 (.bool false)).setCell (p := ⟨gx, 1, none⟩) hx3 (.int .i64 0)).setCell (p := ⟨gx, 2, none⟩) hx3 (.int .i64 0)
  clear v0 v1 v2 f0 f1 f2 HX5 HS5 HZ5 hB5
  generalize (((w5.setCell ⟨gx, 0, none⟩ (.bool false)).setCell ⟨gx, 1, none⟩ (.int .i64 0)).setCell ⟨gx, 2, none⟩ (.int .i64 0)) = w6 at HX6 HS6 HZ6 hB6 ⊢
  have v0 : w6.cell? ⟨gx, 0, none⟩ = some (.bool false) := HX6.out.cell rfl
  have v1 : w6.cell? ⟨gx, 1, none⟩ = some (.int .i64 0) := HX6.out.cell rfl
  have v2 : w6.cell? ⟨gx, 2, none⟩ = some (.int .i64 0) := HX6.out.cell rfl
  have s0 : w6.cell? ⟨w.heap.size, 0, none⟩ = some (.bool w0) := HS6.out.cell rfl
  have s1 : w6.cell? ⟨w.heap.size, 1, none⟩ = some (.int .i64 c0) := HS6.out.cell rfl
  have s2 : w6.cell? ⟨w.heap.size, 2, none⟩ = some (.int .i64 d0) := HS6.out.cell rfl
  go_wp2_with (refine wpList_store_row rfl 46 (.tmp 6) (.tmp 39) rfl (w.heap.size + 1) #[.bool w0, .int .i64 c0, .int .i64 d0, .bool false, .int .i64 0, .int .i64 0] rfl rfl 46 #[.bool false, .int .i64 0, .int .i64 0, .bool false, .int .i64 0, .int .i64 0] HZ6.out (by kernel_rfl) rfl (by simp [Value.oneCell']) ?_)
  have hld := (HZ6.out.row [.bool w0, .int .i64 c0, .int .i64 d0, .bool false, .int .i64 0, .int .i64 0]).load Try.underlying46 (by kernel_rfl)
  have hB9 := below_row hB6 (show w.heap.size ≤ w.heap.size + 1 by omega) [.bool w0, .int .i64 c0, .int .i64 d0, .bool false, .int .i64 0, .int .i64 0].toArray
  refine bodyPost_ret (v := .tuple #[.agg [.bool w0, .int .i64 c0, .int .i64 d0, .bool false, .int .i64 0, .int .i64 0].toArray, .int .i64 0]) ?_ rfl ?_
  · simp [results, Try.results21, asAddr, hld]
  · exact Ret.mk (pairT (t := ⟨w0, c0, d0, false, 0, 0⟩) HE.out) hB9

set_option maxHeartbeats 1600000 in
theorem kwrite_z_false (w0 : Bool) (c0 d0 : Int) (w1 : Bool) (c1 d1 : Int) (data : Int) (w : World) (hr : rightB ⟨w0, c0, d0, w1, c1, d1⟩ = true) (hcur : cur ⟨w0, c0, d0, w1, c1, d1⟩ = 0) (hf : (c0 : Int) ≠ 1099511627776) :
    Calls Try.prog 21 #[.agg #[.bool w0, .int .i64 c0, .int .i64 d0, .bool w1, .int .i64 c1, .int .i64 d1], .int .i64 data, .bool false] w (Ret w (.tuple #[(writeE ⟨w0, c0, d0, w1, c1, d1⟩ data false).1.val, .int .i64 (writeE ⟨w0, c0, d0, w1, c1, d1⟩ data false).2])) := by
  have hcnt : countOf ⟨w0, c0, d0, w1, c1, d1⟩ = c0 := by rw [countOf, hcur]; rfl
  have hbd := rightB_bd hr
  simp only at hbd
  obtain ⟨b0, b1, b2, b3⟩ := hbd
  have HE : Hid (writeE ⟨w0, c0, d0, w1, c1, d1⟩ data false = (⟨w0, c0, d0, true, 1 + c0, data⟩, 0)) := Lib.hid (by rw [writeE, hr, if_pos rfl, hcnt, if_neg hf, hcur]; rw [Int.add_comm 1 c0]; rfl)
  have ht : ¬ 1099511627776 < 1 + c0 := by omega
  clear hcnt hf
  have hc := Lib.hid hcur
  clear hcur
  have HS : Hid (Blk ((w.alloc (.cells #[.bool w0, .int .i64 c0, .int .i64 d0, .bool w1, .int .i64 c1, .int .i64 d1] 46)).alloc (.cells #[.bool false, .int .i64 0, .int .i64 0, .bool false, .int .i64 0, .int .i64 0] 46)) w.heap.size 46 [.bool w0, .int .i64 c0, .int .i64 d0, .bool w1, .int .i64 c1, .int .i64 d1]) := Lib.hid ((Blk.new w _ [.bool w0, .int .i64 c0, .int .i64 d0, .bool w1, .int .i64 c1, .int .i64 d1]).alloc _)
  have HZ : Hid (Blk ((w.alloc (.cells #[.bool w0, .int .i64 c0, .int .i64 d0, .bool w1, .int .i64 c1, .int .i64 d1] 46)).alloc (.cells #[.bool false, .int .i64 0, .int .i64 0, .bool false, .int .i64 0, .int .i64 0] 46)) (w.heap.size + 1) 46 [.bool false, .int .i64 0, .int .i64 0, .bool false, .int .i64 0, .int .i64 0]) := Lib.hid (by
    have := Blk.new (w.alloc (.cells #[.bool w0, .int .i64 c0, .int .i64 d0, .bool w1, .int .i64 c1, .int .i64 d1] 46)) 46 [.bool false, .int .i64 0, .int .i64 0, .bool false, .int .i64 0, .int .i64 0]
    rwa [show (w.alloc (.cells #[.bool w0, .int .i64 c0, .int .i64 d0, .bool w1, .int .i64 c1, .int .i64 d1] 46)).heap.size = w.heap.size + 1 by simp] at this)
  have hB0 : Below w.heap.size w ((w.alloc (.cells #[.bool w0, .int .i64 c0, .int .i64 d0, .bool w1, .int .i64 c1, .int .i64 d1] 46)).alloc (.cells #[.bool false, .int .i64 0, .int .i64 0, .bool false, .int .i64 0, .int .i64 0] 46)) := ((Below.refl _ _).alloc (Nat.le_refl _) _).alloc (by simp) _
  go_enter Try.func21, Try.ntmps21
  go_wp2_with (refine wpList_load_row rfl 46 (.tmp 3) rfl w.heap.size rfl 46 #[.bool w0, .int .i64 c0, .int .i64 d0, .bool w1, .int .i64 c1, .int .i64 d1] (0, 0) (.array 2 45) HS.out Try.underlying46 rfl (by kernel_rfl) ?_)
  refine (kright_is ⟨w0, c0, d0, w1, c1, d1⟩ _ _ hr).mono ?_; rintro e wa ⟨rfl, hb1⟩
  have HS1 := Lib.hid (HS.out.later hb1)
  have HZ1 := Lib.hid (HZ.out.later hb1)
  have hB1 := hB0.trans (hb1.mono hB0.size)
  clear HS HZ hb1 hB0
  have HX1 := Lib.hid (Blk.new wa 45 [.bool true, .int .i64 1, .int .i64 data])
  have HS2 := Lib.hid (HS1.out.alloc (.cells #[.bool true, .int .i64 1, .int .i64 data] 45))
  have HZ2 := Lib.hid (HZ1.out.alloc (.cells #[.bool true, .int .i64 1, .int .i64 data] 45))
  have hB2 := hB1.alloc hB1.size (.cells #[.bool true, .int .i64 1, .int .i64 data] 45)
  have hz1 := HZ1.out.lt
  go_wp2_with (refine wpList_load_row rfl 46 (.tmp 3) rfl w.heap.size rfl 46 #[.bool w0, .int .i64 c0, .int .i64 d0, .bool w1, .int .i64 c1, .int .i64 d1] (0, 0) (.array 2 45) HS2.out Try.underlying46 rfl (by kernel_rfl) ?_)
  refine (knewer_is ⟨w0, c0, d0, w1, c1, d1⟩ _ _ hc.out).mono ?_; rintro e wb ⟨rfl, hb2⟩
  have HS3 := Lib.hid (HS2.out.later hb2)
  have HZ3 := Lib.hid (HZ2.out.later hb2)
  have HX3 := Lib.hid (HX1.out.later hb2)
  have hB3 := hB2.trans (hb2.mono hB2.size)
  have hx3 : w.heap.size ≤ wa.heap.size := hB1.size
  clear HS1 HZ1 HX1 HS2 HZ2 hB2 hb2 hB1
  generalize wa.heap.size = gx at HX3 hx3 hz1 ⊢
  go_wp2
  have e1 : ∀ z : LaterOf wb, z.w.cell? ⟨w.heap.size, 1, none⟩ = some (.int .i64 c0) := fun z => z.cell (HS3.out.cell rfl)
  have e2 : ∀ z : LaterOf wb, z.w.cell? ⟨gx, 1, none⟩ = some (.int .i64 1) := fun z => z.cell (HX3.out.cell rfl)
  (refine wp_region_tail 8 (by kernel_rfl) (by kernel_rfl) ?_; simp only [List.take_succ_cons, List.take_zero, List.drop_succ_cons, List.drop_zero]; repeat (go_big_quiet_step (fail)))
  refine wpQuiet_nil ?_; intro xw hw'; obtain ⟨xq, hw''⟩ := hw'; obtain ⟨xw0, xh⟩ := xq; change xw = xw0 at hw''; subst hw''
  have HX4 := Lib.hid (HX3.out.later xh)
  have u1 := HX4.out.cell (k := 1) rfl
  have f1 := HX4.out.froz (k := 1)
  have HS5 := Lib.hid ((HS3.out.later xh).other (g' := gx) (k := 1) (by omega) (.int .i64 (1 + c0)))
  have HZ5 := Lib.hid ((HZ3.out.later xh).other (g' := gx) (k := 1) (by omega) (.int .i64 (1 + c0)))
  have HX5 : Hid (Blk (xw.setCell ⟨gx, 1, none⟩ (.int .i64 (1 + c0))) gx 45 [.bool true, .int .i64 (1 + c0), .int .i64 data]) := Lib.hid (HX4.out.set (k := 1) (.int .i64 (1 + c0)))
  have hB5 := (hB3.trans (xh.mono hB3.size)).setCell (p := ⟨gx, 1, none⟩) hx3 (.int .i64 (1 + c0))
  clear HS3 HZ3 HX3 hB3 e1 e2 xh
  go_upto_region 7 with (fail)
  clear u1 f1 HX4
  generalize xw.setCell ⟨gx, 1, none⟩ (.int .i64 (1 + c0)) = w5 at HS5 HZ5 HX5 hB5 ⊢
  have v0 : w5.cell? ⟨gx, 0, none⟩ = some (.bool true) := HX5.out.cell rfl
  have v1 : w5.cell? ⟨gx, 1, none⟩ = some (.int .i64 (1 + c0)) := HX5.out.cell rfl
  have v2 : w5.cell? ⟨gx, 2, none⟩ = some (.int .i64 data) := HX5.out.cell rfl
  have HX6 := HX5
  have HS6 := HS5
  have HZ6 := HZ5
  have hB6 := hB5
  clear HX5 HS5 HZ5 hB5
  have s0 : w5.cell? ⟨w.heap.size, 0, none⟩ = some (.bool w0) := HS6.out.cell rfl
  have s1 : w5.cell? ⟨w.heap.size, 1, none⟩ = some (.int .i64 c0) := HS6.out.cell rfl
  have s2 : w5.cell? ⟨w.heap.size, 2, none⟩ = some (.int .i64 d0) := HS6.out.cell rfl
  go_wp2_with (refine wpList_store_row rfl 46 (.tmp 6) (.tmp 39) rfl (w.heap.size + 1) #[.bool w0, .int .i64 c0, .int .i64 d0, .bool true, .int .i64 (1 + c0), .int .i64 data] rfl rfl 46 #[.bool false, .int .i64 0, .int .i64 0, .bool false, .int .i64 0, .int .i64 0] HZ6.out (by kernel_rfl) rfl (by simp [Value.oneCell']) ?_)
  have hld := (HZ6.out.row [.bool w0, .int .i64 c0, .int .i64 d0, .bool true, .int .i64 (1 + c0), .int .i64 data]).load Try.underlying46 (by kernel_rfl)
  have hB9 := below_row hB6 (show w.heap.size ≤ w.heap.size + 1 by omega) [.bool w0, .int .i64 c0, .int .i64 d0, .bool true, .int .i64 (1 + c0), .int .i64 data].toArray
  refine bodyPost_ret (v := .tuple #[.agg [.bool w0, .int .i64 c0, .int .i64 d0, .bool true, .int .i64 (1 + c0), .int .i64 data].toArray, .int .i64 0]) ?_ rfl ?_
  · simp [results, Try.results21, asAddr, hld]
  · exact Ret.mk (pairT (t := ⟨w0, c0, d0, true, 1 + c0, data⟩) HE.out) hB9

set_option maxHeartbeats 1600000 in
theorem kwrite_full_o (w0 : Bool) (c0 d0 : Int) (w1 : Bool) (c1 d1 : Int) (data : Int) (broken : Bool) (w : World) (hr : rightB ⟨w0, c0, d0, w1, c1, d1⟩ = true) (hcur : cur ⟨w0, c0, d0, w1, c1, d1⟩ = 1) (hf : c1 = 1099511627776) :
    Calls Try.prog 21 #[.agg #[.bool w0, .int .i64 c0, .int .i64 d0, .bool w1, .int .i64 c1, .int .i64 d1], .int .i64 data, .bool broken] w (Ret w (.tuple #[(writeE ⟨w0, c0, d0, w1, c1, d1⟩ data broken).1.val, .int .i64 (writeE ⟨w0, c0, d0, w1, c1, d1⟩ data broken).2])) := by
  have hcnt : countOf ⟨w0, c0, d0, w1, c1, d1⟩ = c1 := by rw [countOf, hcur]; rfl
  have hbd := rightB_bd hr
  simp only at hbd
  obtain ⟨b0, b1, b2, b3⟩ := hbd
  have HE : Hid (writeE ⟨w0, c0, d0, w1, c1, d1⟩ data broken = (zero, 4)) := Lib.hid (by rw [writeE, hr, if_pos rfl, hcnt, if_pos hf])
  have ht : 1099511627776 < 1 + c1 := by omega
  clear hcnt hf
  have hc := Lib.hid hcur
  clear hcur
  have HS : Hid (Blk ((w.alloc (.cells #[.bool w0, .int .i64 c0, .int .i64 d0, .bool w1, .int .i64 c1, .int .i64 d1] 46)).alloc (.cells #[.bool false, .int .i64 0, .int .i64 0, .bool false, .int .i64 0, .int .i64 0] 46)) w.heap.size 46 [.bool w0, .int .i64 c0, .int .i64 d0, .bool w1, .int .i64 c1, .int .i64 d1]) := Lib.hid ((Blk.new w _ [.bool w0, .int .i64 c0, .int .i64 d0, .bool w1, .int .i64 c1, .int .i64 d1]).alloc _)
  have HZ : Hid (Blk ((w.alloc (.cells #[.bool w0, .int .i64 c0, .int .i64 d0, .bool w1, .int .i64 c1, .int .i64 d1] 46)).alloc (.cells #[.bool false, .int .i64 0, .int .i64 0, .bool false, .int .i64 0, .int .i64 0] 46)) (w.heap.size + 1) 46 [.bool false, .int .i64 0, .int .i64 0, .bool false, .int .i64 0, .int .i64 0]) := Lib.hid (by
    have := Blk.new (w.alloc (.cells #[.bool w0, .int .i64 c0, .int .i64 d0, .bool w1, .int .i64 c1, .int .i64 d1] 46)) 46 [.bool false, .int .i64 0, .int .i64 0, .bool false, .int .i64 0, .int .i64 0]
    rwa [show (w.alloc (.cells #[.bool w0, .int .i64 c0, .int .i64 d0, .bool w1, .int .i64 c1, .int .i64 d1] 46)).heap.size = w.heap.size + 1 by simp] at this)
  have hB0 : Below w.heap.size w ((w.alloc (.cells #[.bool w0, .int .i64 c0, .int .i64 d0, .bool w1, .int .i64 c1, .int .i64 d1] 46)).alloc (.cells #[.bool false, .int .i64 0, .int .i64 0, .bool false, .int .i64 0, .int .i64 0] 46)) := ((Below.refl _ _).alloc (Nat.le_refl _) _).alloc (by simp) _
  go_enter Try.func21, Try.ntmps21
  go_wp2_with (refine wpList_load_row rfl 46 (.tmp 3) rfl w.heap.size rfl 46 #[.bool w0, .int .i64 c0, .int .i64 d0, .bool w1, .int .i64 c1, .int .i64 d1] (0, 0) (.array 2 45) HS.out Try.underlying46 rfl (by kernel_rfl) ?_)
  refine (kright_is ⟨w0, c0, d0, w1, c1, d1⟩ _ _ hr).mono ?_; rintro e wa ⟨rfl, hb1⟩
  have HS1 := Lib.hid (HS.out.later hb1)
  have HZ1 := Lib.hid (HZ.out.later hb1)
  have hB1 := hB0.trans (hb1.mono hB0.size)
  clear HS HZ hb1 hB0
  have HX1 := Lib.hid (Blk.new wa 45 [.bool true, .int .i64 1, .int .i64 data])
  have HS2 := Lib.hid (HS1.out.alloc (.cells #[.bool true, .int .i64 1, .int .i64 data] 45))
  have HZ2 := Lib.hid (HZ1.out.alloc (.cells #[.bool true, .int .i64 1, .int .i64 data] 45))
  have hB2 := hB1.alloc hB1.size (.cells #[.bool true, .int .i64 1, .int .i64 data] 45)
  have hz1 := HZ1.out.lt
  go_wp2_with (refine wpList_load_row rfl 46 (.tmp 3) rfl w.heap.size rfl 46 #[.bool w0, .int .i64 c0, .int .i64 d0, .bool w1, .int .i64 c1, .int .i64 d1] (0, 0) (.array 2 45) HS2.out Try.underlying46 rfl (by kernel_rfl) ?_)
  refine (knewer_is ⟨w0, c0, d0, w1, c1, d1⟩ _ _ hc.out).mono ?_; rintro e wb ⟨rfl, hb2⟩
  have HS3 := Lib.hid (HS2.out.later hb2)
  have HZ3 := Lib.hid (HZ2.out.later hb2)
  have HX3 := Lib.hid (HX1.out.later hb2)
  have hB3 := hB2.trans (hb2.mono hB2.size)
  have hx3 : w.heap.size ≤ wa.heap.size := hB1.size
  clear HS1 HZ1 HX1 HS2 HZ2 hB2 hb2 hB1
  generalize wa.heap.size = gx at HX3 hx3 hz1 ⊢
  go_wp2
  have e1 : ∀ z : LaterOf wb, z.w.cell? ⟨w.heap.size, 4, none⟩ = some (.int .i64 c1) := fun z => z.cell (HS3.out.cell rfl)
  have e2 : ∀ z : LaterOf wb, z.w.cell? ⟨gx, 1, none⟩ = some (.int .i64 1) := fun z => z.cell (HX3.out.cell rfl)
  (refine wp_region_tail 8 (by kernel_rfl) (by kernel_rfl) ?_; simp only [List.take_succ_cons, List.take_zero, List.drop_succ_cons, List.drop_zero]; repeat (go_big_quiet_step (fail)))
  refine wpQuiet_nil ?_; intro xw hw'; obtain ⟨xq, hw''⟩ := hw'; obtain ⟨xw0, xh⟩ := xq; change xw = xw0 at hw''; subst hw''
  have HX4 := Lib.hid (HX3.out.later xh)
  have u1 := HX4.out.cell (k := 1) rfl
  have f1 := HX4.out.froz (k := 1)
  have HS5 := Lib.hid ((HS3.out.later xh).other (g' := gx) (k := 1) (by omega) (.int .i64 (1 + c1)))
  have HZ5 := Lib.hid ((HZ3.out.later xh).other (g' := gx) (k := 1) (by omega) (.int .i64 (1 + c1)))
  have HX5 : Hid (Blk (xw.setCell ⟨gx, 1, none⟩ (.int .i64 (1 + c1))) gx 45 [.bool true, .int .i64 (1 + c1), .int .i64 data]) := Lib.hid (HX4.out.set (k := 1) (.int .i64 (1 + c1)))
  have hB5 := (hB3.trans (xh.mono hB3.size)).setCell (p := ⟨gx, 1, none⟩) hx3 (.int .i64 (1 + c1))
  clear HS3 HZ3 HX3 hB3 e1 e2 xh
  go_upto_region 7 with (fail)
  clear u1 f1 HX4
  generalize xw.setCell ⟨gx, 1, none⟩ (.int .i64 (1 + c1)) = w5 at HS5 HZ5 HX5 hB5 ⊢
  have v0 : w5.cell? ⟨gx, 0, none⟩ = some (.bool true) := HX5.out.cell rfl
  have v1 : w5.cell? ⟨gx, 1, none⟩ = some (.int .i64 (1 + c1)) := HX5.out.cell rfl
  have v2 : w5.cell? ⟨gx, 2, none⟩ = some (.int .i64 data) := HX5.out.cell rfl
  go_wp2_with (refine wpList_store_row rfl 46 (.tmp 6) (.tmp 31) rfl (w.heap.size + 1) #[.bool false, .int .i64 0, .int .i64 0, .bool false, .int .i64 0, .int .i64 0] rfl rfl 46 #[.bool false, .int .i64 0, .int .i64 0, .bool false, .int .i64 0, .int .i64 0] HZ5.out (by kernel_rfl) rfl (by simp [Value.oneCell']) ?_)
  have hld := (HZ5.out.row [.bool false, .int .i64 0, .int .i64 0, .bool false, .int .i64 0, .int .i64 0]).load Try.underlying46 (by kernel_rfl)
  have hB9 := below_row hB5 (show w.heap.size ≤ w.heap.size + 1 by omega) [.bool false, .int .i64 0, .int .i64 0, .bool false, .int .i64 0, .int .i64 0].toArray
  refine bodyPost_ret (v := .tuple #[.agg [.bool false, .int .i64 0, .int .i64 0, .bool false, .int .i64 0, .int .i64 0].toArray, .int .i64 4]) ?_ rfl ?_
  · simp [results, Try.results21, asAddr, hld]
  · exact Ret.mk (pairT (t := zero) HE.out) hB9

set_option maxHeartbeats 1600000 in
theorem kwrite_o_true (w0 : Bool) (c0 d0 : Int) (w1 : Bool) (c1 d1 : Int) (data : Int) (w : World) (hr : rightB ⟨w0, c0, d0, w1, c1, d1⟩ = true) (hcur : cur ⟨w0, c0, d0, w1, c1, d1⟩ = 1) (hf : (c1 : Int) ≠ 1099511627776) :
    Calls Try.prog 21 #[.agg #[.bool w0, .int .i64 c0, .int .i64 d0, .bool w1, .int .i64 c1, .int .i64 d1], .int .i64 data, .bool true] w (Ret w (.tuple #[(writeE ⟨w0, c0, d0, w1, c1, d1⟩ data true).1.val, .int .i64 (writeE ⟨w0, c0, d0, w1, c1, d1⟩ data true).2])) := by
  have hcnt : countOf ⟨w0, c0, d0, w1, c1, d1⟩ = c1 := by rw [countOf, hcur]; rfl
  have hbd := rightB_bd hr
  simp only at hbd
  obtain ⟨b0, b1, b2, b3⟩ := hbd
  have HE : Hid (writeE ⟨w0, c0, d0, w1, c1, d1⟩ data true = (⟨false, 0, 0, w1, c1, d1⟩, 0)) := Lib.hid (by rw [writeE, hr, if_pos rfl, hcnt, if_neg hf, hcur]; rfl)
  have ht : ¬ 1099511627776 < 1 + c1 := by omega
  clear hcnt hf
  have hc := Lib.hid hcur
  clear hcur
  have HS : Hid (Blk ((w.alloc (.cells #[.bool w0, .int .i64 c0, .int .i64 d0, .bool w1, .int .i64 c1, .int .i64 d1] 46)).alloc (.cells #[.bool false, .int .i64 0, .int .i64 0, .bool false, .int .i64 0, .int .i64 0] 46)) w.heap.size 46 [.bool w0, .int .i64 c0, .int .i64 d0, .bool w1, .int .i64 c1, .int .i64 d1]) := Lib.hid ((Blk.new w _ [.bool w0, .int .i64 c0, .int .i64 d0, .bool w1, .int .i64 c1, .int .i64 d1]).alloc _)
  have HZ : Hid (Blk ((w.alloc (.cells #[.bool w0, .int .i64 c0, .int .i64 d0, .bool w1, .int .i64 c1, .int .i64 d1] 46)).alloc (.cells #[.bool false, .int .i64 0, .int .i64 0, .bool false, .int .i64 0, .int .i64 0] 46)) (w.heap.size + 1) 46 [.bool false, .int .i64 0, .int .i64 0, .bool false, .int .i64 0, .int .i64 0]) := Lib.hid (by
    have := Blk.new (w.alloc (.cells #[.bool w0, .int .i64 c0, .int .i64 d0, .bool w1, .int .i64 c1, .int .i64 d1] 46)) 46 [.bool false, .int .i64 0, .int .i64 0, .bool false, .int .i64 0, .int .i64 0]
    rwa [show (w.alloc (.cells #[.bool w0, .int .i64 c0, .int .i64 d0, .bool w1, .int .i64 c1, .int .i64 d1] 46)).heap.size = w.heap.size + 1 by simp] at this)
  have hB0 : Below w.heap.size w ((w.alloc (.cells #[.bool w0, .int .i64 c0, .int .i64 d0, .bool w1, .int .i64 c1, .int .i64 d1] 46)).alloc (.cells #[.bool false, .int .i64 0, .int .i64 0, .bool false, .int .i64 0, .int .i64 0] 46)) := ((Below.refl _ _).alloc (Nat.le_refl _) _).alloc (by simp) _
  go_enter Try.func21, Try.ntmps21
  go_wp2_with (refine wpList_load_row rfl 46 (.tmp 3) rfl w.heap.size rfl 46 #[.bool w0, .int .i64 c0, .int .i64 d0, .bool w1, .int .i64 c1, .int .i64 d1] (0, 0) (.array 2 45) HS.out Try.underlying46 rfl (by kernel_rfl) ?_)
  refine (kright_is ⟨w0, c0, d0, w1, c1, d1⟩ _ _ hr).mono ?_; rintro e wa ⟨rfl, hb1⟩
  have HS1 := Lib.hid (HS.out.later hb1)
  have HZ1 := Lib.hid (HZ.out.later hb1)
  have hB1 := hB0.trans (hb1.mono hB0.size)
  clear HS HZ hb1 hB0
  have HX1 := Lib.hid (Blk.new wa 45 [.bool true, .int .i64 1, .int .i64 data])
  have HS2 := Lib.hid (HS1.out.alloc (.cells #[.bool true, .int .i64 1, .int .i64 data] 45))
  have HZ2 := Lib.hid (HZ1.out.alloc (.cells #[.bool true, .int .i64 1, .int .i64 data] 45))
  have hB2 := hB1.alloc hB1.size (.cells #[.bool true, .int .i64 1, .int .i64 data] 45)
  have hz1 := HZ1.out.lt
  go_wp2_with (refine wpList_load_row rfl 46 (.tmp 3) rfl w.heap.size rfl 46 #[.bool w0, .int .i64 c0, .int .i64 d0, .bool w1, .int .i64 c1, .int .i64 d1] (0, 0) (.array 2 45) HS2.out Try.underlying46 rfl (by kernel_rfl) ?_)
  refine (knewer_is ⟨w0, c0, d0, w1, c1, d1⟩ _ _ hc.out).mono ?_; rintro e wb ⟨rfl, hb2⟩
  have HS3 := Lib.hid (HS2.out.later hb2)
  have HZ3 := Lib.hid (HZ2.out.later hb2)
  have HX3 := Lib.hid (HX1.out.later hb2)
  have hB3 := hB2.trans (hb2.mono hB2.size)
  have hx3 : w.heap.size ≤ wa.heap.size := hB1.size
  clear HS1 HZ1 HX1 HS2 HZ2 hB2 hb2 hB1
  generalize wa.heap.size = gx at HX3 hx3 hz1 ⊢
  go_wp2
  have e1 : ∀ z : LaterOf wb, z.w.cell? ⟨w.heap.size, 4, none⟩ = some (.int .i64 c1) := fun z => z.cell (HS3.out.cell rfl)
  have e2 : ∀ z : LaterOf wb, z.w.cell? ⟨gx, 1, none⟩ = some (.int .i64 1) := fun z => z.cell (HX3.out.cell rfl)
  (refine wp_region_tail 8 (by kernel_rfl) (by kernel_rfl) ?_; simp only [List.take_succ_cons, List.take_zero, List.drop_succ_cons, List.drop_zero]; repeat (go_big_quiet_step (fail)))
  refine wpQuiet_nil ?_; intro xw hw'; obtain ⟨xq, hw''⟩ := hw'; obtain ⟨xw0, xh⟩ := xq; change xw = xw0 at hw''; subst hw''
  have HX4 := Lib.hid (HX3.out.later xh)
  have u1 := HX4.out.cell (k := 1) rfl
  have f1 := HX4.out.froz (k := 1)
  have HS5 := Lib.hid ((HS3.out.later xh).other (g' := gx) (k := 1) (by omega) (.int .i64 (1 + c1)))
  have HZ5 := Lib.hid ((HZ3.out.later xh).other (g' := gx) (k := 1) (by omega) (.int .i64 (1 + c1)))
  have HX5 : Hid (Blk (xw.setCell ⟨gx, 1, none⟩ (.int .i64 (1 + c1))) gx 45 [.bool true, .int .i64 (1 + c1), .int .i64 data]) := Lib.hid (HX4.out.set (k := 1) (.int .i64 (1 + c1)))
  have hB5 := (hB3.trans (xh.mono hB3.size)).setCell (p := ⟨gx, 1, none⟩) hx3 (.int .i64 (1 + c1))
  clear HS3 HZ3 HX3 hB3 e1 e2 xh
  go_upto_region 7 with (fail)
  clear u1 f1 HX4
  generalize xw.setCell ⟨gx, 1, none⟩ (.int .i64 (1 + c1)) = w5 at HS5 HZ5 HX5 hB5 ⊢
  have v0 : w5.cell? ⟨gx, 0, none⟩ = some (.bool true) := HX5.out.cell rfl
  have v1 : w5.cell? ⟨gx, 1, none⟩ = some (.int .i64 (1 + c1)) := HX5.out.cell rfl
  have v2 : w5.cell? ⟨gx, 2, none⟩ = some (.int .i64 data) := HX5.out.cell rfl
  have f0 := HX5.out.froz (k := 0)
  have f1 := HX5.out.froz (k := 1)
  have f2 := HX5.out.froz (k := 2)
  go_upto_region 11 with (fail)
  have HX6 : Hid (Blk (((w5.setCell ⟨gx, 0, none⟩ (.bool false)).setCell ⟨gx, 1, none⟩ (.int .i64 0)).setCell ⟨gx, 2, none⟩ (.int .i64 0)) gx 45 [.bool false, .int .i64 0, .int .i64 0]) := Lib.hid (((HX5.out.set (k := 0) (.bool false)).set (k := 1) (.int .i64 0)).set (k := 2) (.int .i64 0))
  have HS6 := Lib.hid (((HS5.out.other (g' := gx) (k := 0) (by omega) (.bool false)).other (g' := gx) (k := 1) (by omega) (.int .i64 0)).other (g' := gx) (k := 2) (by omega) (.int .i64 0))
  have HZ6 := Lib.hid (((HZ5.out.other (g' := gx) (k := 0) (by omega) (.bool false)).other (g' := gx) (k := 1) (by omega) (.int .i64 0)).other (g' := gx) (k := 2) (by omega) (.int .i64 0))
  have hB6 := ((hB5.setCell (p := ⟨gx, 0, none⟩) hx3 (.bool false)).setCell (p := ⟨gx, 1, none⟩) hx3 (.int .i64 0)).setCell (p := ⟨gx, 2, none⟩) hx3 (.int .i64 0)
  clear v0 v1 v2 f0 f1 f2 HX5 HS5 HZ5 hB5
  generalize (((w5.setCell ⟨gx, 0, none⟩ (.bool false)).setCell ⟨gx, 1, none⟩ (.int .i64 0)).setCell ⟨gx, 2, none⟩ (.int .i64 0)) = w6 at HX6 HS6 HZ6 hB6 ⊢
  have v0 : w6.cell? ⟨gx, 0, none⟩ = some (.bool false) := HX6.out.cell rfl
  have v1 : w6.cell? ⟨gx, 1, none⟩ = some (.int .i64 0) := HX6.out.cell rfl
  have v2 : w6.cell? ⟨gx, 2, none⟩ = some (.int .i64 0) := HX6.out.cell rfl
  have s0 : w6.cell? ⟨w.heap.size, 3, none⟩ = some (.bool w1) := HS6.out.cell rfl
  have s1 : w6.cell? ⟨w.heap.size, 4, none⟩ = some (.int .i64 c1) := HS6.out.cell rfl
  have s2 : w6.cell? ⟨w.heap.size, 5, none⟩ = some (.int .i64 d1) := HS6.out.cell rfl
  go_wp2_with (refine wpList_store_row rfl 46 (.tmp 6) (.tmp 43) rfl (w.heap.size + 1) #[.bool false, .int .i64 0, .int .i64 0, .bool w1, .int .i64 c1, .int .i64 d1] rfl rfl 46 #[.bool false, .int .i64 0, .int .i64 0, .bool false, .int .i64 0, .int .i64 0] HZ6.out (by kernel_rfl) rfl (by simp [Value.oneCell']) ?_)
  have hld := (HZ6.out.row [.bool false, .int .i64 0, .int .i64 0, .bool w1, .int .i64 c1, .int .i64 d1]).load Try.underlying46 (by kernel_rfl)
  have hB9 := below_row hB6 (show w.heap.size ≤ w.heap.size + 1 by omega) [.bool false, .int .i64 0, .int .i64 0, .bool w1, .int .i64 c1, .int .i64 d1].toArray
  refine bodyPost_ret (v := .tuple #[.agg [.bool false, .int .i64 0, .int .i64 0, .bool w1, .int .i64 c1, .int .i64 d1].toArray, .int .i64 0]) ?_ rfl ?_
  · simp [results, Try.results21, asAddr, hld]
  · exact Ret.mk (pairT (t := ⟨false, 0, 0, w1, c1, d1⟩) HE.out) hB9

set_option maxHeartbeats 1600000 in
theorem kwrite_o_false (w0 : Bool) (c0 d0 : Int) (w1 : Bool) (c1 d1 : Int) (data : Int) (w : World) (hr : rightB ⟨w0, c0, d0, w1, c1, d1⟩ = true) (hcur : cur ⟨w0, c0, d0, w1, c1, d1⟩ = 1) (hf : (c1 : Int) ≠ 1099511627776) :
    Calls Try.prog 21 #[.agg #[.bool w0, .int .i64 c0, .int .i64 d0, .bool w1, .int .i64 c1, .int .i64 d1], .int .i64 data, .bool false] w (Ret w (.tuple #[(writeE ⟨w0, c0, d0, w1, c1, d1⟩ data false).1.val, .int .i64 (writeE ⟨w0, c0, d0, w1, c1, d1⟩ data false).2])) := by
  have hcnt : countOf ⟨w0, c0, d0, w1, c1, d1⟩ = c1 := by rw [countOf, hcur]; rfl
  have hbd := rightB_bd hr
  simp only at hbd
  obtain ⟨b0, b1, b2, b3⟩ := hbd
  have HE : Hid (writeE ⟨w0, c0, d0, w1, c1, d1⟩ data false = (⟨true, 1 + c1, data, w1, c1, d1⟩, 0)) := Lib.hid (by rw [writeE, hr, if_pos rfl, hcnt, if_neg hf, hcur]; rw [Int.add_comm 1 c1]; rfl)
  have ht : ¬ 1099511627776 < 1 + c1 := by omega
  clear hcnt hf
  have hc := Lib.hid hcur
  clear hcur
  have HS : Hid (Blk ((w.alloc (.cells #[.bool w0, .int .i64 c0, .int .i64 d0, .bool w1, .int .i64 c1, .int .i64 d1] 46)).alloc (.cells #[.bool false, .int .i64 0, .int .i64 0, .bool false, .int .i64 0, .int .i64 0] 46)) w.heap.size 46 [.bool w0, .int .i64 c0, .int .i64 d0, .bool w1, .int .i64 c1, .int .i64 d1]) := Lib.hid ((Blk.new w _ [.bool w0, .int .i64 c0, .int .i64 d0, .bool w1, .int .i64 c1, .int .i64 d1]).alloc _)
  have HZ : Hid (Blk ((w.alloc (.cells #[.bool w0, .int .i64 c0, .int .i64 d0, .bool w1, .int .i64 c1, .int .i64 d1] 46)).alloc (.cells #[.bool false, .int .i64 0, .int .i64 0, .bool false, .int .i64 0, .int .i64 0] 46)) (w.heap.size + 1) 46 [.bool false, .int .i64 0, .int .i64 0, .bool false, .int .i64 0, .int .i64 0]) := Lib.hid (by
    have := Blk.new (w.alloc (.cells #[.bool w0, .int .i64 c0, .int .i64 d0, .bool w1, .int .i64 c1, .int .i64 d1] 46)) 46 [.bool false, .int .i64 0, .int .i64 0, .bool false, .int .i64 0, .int .i64 0]
    rwa [show (w.alloc (.cells #[.bool w0, .int .i64 c0, .int .i64 d0, .bool w1, .int .i64 c1, .int .i64 d1] 46)).heap.size = w.heap.size + 1 by simp] at this)
  have hB0 : Below w.heap.size w ((w.alloc (.cells #[.bool w0, .int .i64 c0, .int .i64 d0, .bool w1, .int .i64 c1, .int .i64 d1] 46)).alloc (.cells #[.bool false, .int .i64 0, .int .i64 0, .bool false, .int .i64 0, .int .i64 0] 46)) := ((Below.refl _ _).alloc (Nat.le_refl _) _).alloc (by simp) _
  go_enter Try.func21, Try.ntmps21
  go_wp2_with (refine wpList_load_row rfl 46 (.tmp 3) rfl w.heap.size rfl 46 #[.bool w0, .int .i64 c0, .int .i64 d0, .bool w1, .int .i64 c1, .int .i64 d1] (0, 0) (.array 2 45) HS.out Try.underlying46 rfl (by kernel_rfl) ?_)
  refine (kright_is ⟨w0, c0, d0, w1, c1, d1⟩ _ _ hr).mono ?_; rintro e wa ⟨rfl, hb1⟩
  have HS1 := Lib.hid (HS.out.later hb1)
  have HZ1 := Lib.hid (HZ.out.later hb1)
  have hB1 := hB0.trans (hb1.mono hB0.size)
  clear HS HZ hb1 hB0
  have HX1 := Lib.hid (Blk.new wa 45 [.bool true, .int .i64 1, .int .i64 data])
  have HS2 := Lib.hid (HS1.out.alloc (.cells #[.bool true, .int .i64 1, .int .i64 data] 45))
  have HZ2 := Lib.hid (HZ1.out.alloc (.cells #[.bool true, .int .i64 1, .int .i64 data] 45))
  have hB2 := hB1.alloc hB1.size (.cells #[.bool true, .int .i64 1, .int .i64 data] 45)
  have hz1 := HZ1.out.lt
  go_wp2_with (refine wpList_load_row rfl 46 (.tmp 3) rfl w.heap.size rfl 46 #[.bool w0, .int .i64 c0, .int .i64 d0, .bool w1, .int .i64 c1, .int .i64 d1] (0, 0) (.array 2 45) HS2.out Try.underlying46 rfl (by kernel_rfl) ?_)
  refine (knewer_is ⟨w0, c0, d0, w1, c1, d1⟩ _ _ hc.out).mono ?_; rintro e wb ⟨rfl, hb2⟩
  have HS3 := Lib.hid (HS2.out.later hb2)
  have HZ3 := Lib.hid (HZ2.out.later hb2)
  have HX3 := Lib.hid (HX1.out.later hb2)
  have hB3 := hB2.trans (hb2.mono hB2.size)
  have hx3 : w.heap.size ≤ wa.heap.size := hB1.size
  clear HS1 HZ1 HX1 HS2 HZ2 hB2 hb2 hB1
  generalize wa.heap.size = gx at HX3 hx3 hz1 ⊢
  go_wp2
  have e1 : ∀ z : LaterOf wb, z.w.cell? ⟨w.heap.size, 4, none⟩ = some (.int .i64 c1) := fun z => z.cell (HS3.out.cell rfl)
  have e2 : ∀ z : LaterOf wb, z.w.cell? ⟨gx, 1, none⟩ = some (.int .i64 1) := fun z => z.cell (HX3.out.cell rfl)
  (refine wp_region_tail 8 (by kernel_rfl) (by kernel_rfl) ?_; simp only [List.take_succ_cons, List.take_zero, List.drop_succ_cons, List.drop_zero]; repeat (go_big_quiet_step (fail)))
  refine wpQuiet_nil ?_; intro xw hw'; obtain ⟨xq, hw''⟩ := hw'; obtain ⟨xw0, xh⟩ := xq; change xw = xw0 at hw''; subst hw''
  have HX4 := Lib.hid (HX3.out.later xh)
  have u1 := HX4.out.cell (k := 1) rfl
  have f1 := HX4.out.froz (k := 1)
  have HS5 := Lib.hid ((HS3.out.later xh).other (g' := gx) (k := 1) (by omega) (.int .i64 (1 + c1)))
  have HZ5 := Lib.hid ((HZ3.out.later xh).other (g' := gx) (k := 1) (by omega) (.int .i64 (1 + c1)))
  have HX5 : Hid (Blk (xw.setCell ⟨gx, 1, none⟩ (.int .i64 (1 + c1))) gx 45 [.bool true, .int .i64 (1 + c1), .int .i64 data]) := Lib.hid (HX4.out.set (k := 1) (.int .i64 (1 + c1)))
  have hB5 := (hB3.trans (xh.mono hB3.size)).setCell (p := ⟨gx, 1, none⟩) hx3 (.int .i64 (1 + c1))
  clear HS3 HZ3 HX3 hB3 e1 e2 xh
  go_upto_region 7 with (fail)
  clear u1 f1 HX4
  generalize xw.setCell ⟨gx, 1, none⟩ (.int .i64 (1 + c1)) = w5 at HS5 HZ5 HX5 hB5 ⊢
  have v0 : w5.cell? ⟨gx, 0, none⟩ = some (.bool true) := HX5.out.cell rfl
  have v1 : w5.cell? ⟨gx, 1, none⟩ = some (.int .i64 (1 + c1)) := HX5.out.cell rfl
  have v2 : w5.cell? ⟨gx, 2, none⟩ = some (.int .i64 data) := HX5.out.cell rfl
  have HX6 := HX5
  have HS6 := HS5
  have HZ6 := HZ5
  have hB6 := hB5
  clear HX5 HS5 HZ5 hB5
  have s0 : w5.cell? ⟨w.heap.size, 3, none⟩ = some (.bool w1) := HS6.out.cell rfl
  have s1 : w5.cell? ⟨w.heap.size, 4, none⟩ = some (.int .i64 c1) := HS6.out.cell rfl
  have s2 : w5.cell? ⟨w.heap.size, 5, none⟩ = some (.int .i64 d1) := HS6.out.cell rfl
  go_wp2_with (refine wpList_store_row rfl 46 (.tmp 6) (.tmp 43) rfl (w.heap.size + 1) #[.bool true, .int .i64 (1 + c1), .int .i64 data, .bool w1, .int .i64 c1, .int .i64 d1] rfl rfl 46 #[.bool false, .int .i64 0, .int .i64 0, .bool false, .int .i64 0, .int .i64 0] HZ6.out (by kernel_rfl) rfl (by simp [Value.oneCell']) ?_)
  have hld := (HZ6.out.row [.bool true, .int .i64 (1 + c1), .int .i64 data, .bool w1, .int .i64 c1, .int .i64 d1]).load Try.underlying46 (by kernel_rfl)
  have hB9 := below_row hB6 (show w.heap.size ≤ w.heap.size + 1 by omega) [.bool true, .int .i64 (1 + c1), .int .i64 data, .bool w1, .int .i64 c1, .int .i64 d1].toArray
  refine bodyPost_ret (v := .tuple #[.agg [.bool true, .int .i64 (1 + c1), .int .i64 data, .bool w1, .int .i64 c1, .int .i64 d1].toArray, .int .i64 0]) ?_ rfl ?_
  · simp [results, Try.results21, asAddr, hld]
  · exact Ret.mk (pairT (t := ⟨true, 1 + c1, data, w1, c1, d1⟩) HE.out) hB9

theorem kwrite_any (s : T) (data : Int) (broken : Bool) (w : World) : Calls Try.prog 21 #[s.val, .int .i64 data, .bool broken] w (Ret w (.tuple #[(writeE s data broken).1.val, .int .i64 (writeE s data broken).2])) := by
  obtain ⟨w0, c0, d0, w1, c1, d1⟩ := s
  cases hr : rightB ⟨w0, c0, d0, w1, c1, d1⟩ with
  | false => exact kwrite_no w0 c0 d0 w1 c1 d1 data broken w hr trivial
  | true =>
    rcases cur_cases ⟨w0, c0, d0, w1, c1, d1⟩ with hc | hc | hc
    · by_cases hf : c0 = 1099511627776
      · exact kwrite_full_z w0 c0 d0 w1 c1 d1 data broken w hr hc hf
      · cases broken with
        | true => exact kwrite_z_true w0 c0 d0 w1 c1 d1 data w hr hc hf
        | false => exact kwrite_z_false w0 c0 d0 w1 c1 d1 data w hr hc hf
    · by_cases hf : c1 = 1099511627776
      · exact kwrite_full_o w0 c0 d0 w1 c1 d1 data broken w hr hc hf
      · cases broken with
        | true => exact kwrite_o_true w0 c0 d0 w1 c1 d1 data w hr hc hf
        | false => exact kwrite_o_false w0 c0 d0 w1 c1 d1 data w hr hc hf
    · cases broken with
      | true => exact kwrite_m_true w0 c0 d0 w1 c1 d1 data w hr hc (by decide)
      | false => exact kwrite_m_false w0 c0 d0 w1 c1 d1 data w hr hc (by decide)
end Twin
end Go.Proofs.Ytljdfkejhgaciaa
