/-
  Walks of the two comparisons by which heaps are sorted, in worlds that only grow. Conditions: none beyond each theorem's own premises.
-/
import Derived.Test.YtfljbiobiobamabHpW
import Derived.Test.YtfljbiobiobamabGrow
namespace Go.Proofs.Ytfljbiobiobamab
open Go.RowKit
set_option linter.unusedVariables false
namespace Hk
open Hp (W lt cmpI orI cmp_lt)

set_option maxHeartbeats 400000 in
theorem cmp_gr (x y : Int) (w : World) : Calls Try.prog 50 #[.int .i64 x, .int .i64 y] w (GRet w (.int .i64 (cmpI x y))) := by
  rcases Int.lt_trichotomy x y with h | h | h
  · rw [show cmpI x y = -1 from if_pos h]
    go_enter Try.func50, Try.ntmps50
    go_wp2
    go_ret
    exact ⟨rfl, Gr.refl _⟩
  · subst h
    rw [show cmpI x x = 0 by simp [cmpI]]
    go_enter Try.func50, Try.ntmps50
    go_wp2
    go_ret
    exact ⟨rfl, Gr.refl _⟩
  · rw [show cmpI x y = 1 by unfold cmpI; rw [if_neg (by omega), if_pos h]]
    have h2 : ¬ x < y := by omega
    go_enter Try.func50, Try.ntmps50
    go_wp2
    go_ret
    exact ⟨rfl, Gr.refl _⟩

set_option maxHeartbeats 800000 in
theorem or_gr (x y : Int) (g : Nat) (w : World) (h0 : w.cell? ⟨g, 0, none⟩ = some (.int .i64 x)) (h1 : w.cell? ⟨g, 1, none⟩ = some (.int .i64 y)) :
    Calls Try.prog 49 #[.slice (some ⟨g, 0, none⟩) 2 2] w (GRet w (.int .i64 (orI x y))) := by
  have k0 := Lib.hid h0
  have k1 := Lib.hid h1
  have kg : g < w.heap.size := World.block_lt_of_cell? w _ h0
  clear h0 h1
  go_enter Try.func49, Try.ntmps49
  go_wp2
  go_loopg [8] 2 (fun gg i wr => ∃ k : Nat, k ≤ 2 ∧ gg = 2 - k ∧ i = .int .i64 k ∧ Hid (0 < k → x = 0) ∧ Hid (1 < k → y = 0) ∧ Hid (Gr w wr))
  case atStart => exact ⟨0, by omega, rfl, rfl, Lib.hid (fun h => by omega), Lib.hid (fun h => by omega), Lib.hid (Gr.refl _)⟩
  case round =>
    obtain ⟨k, hk, rfl, rfl, HX, HY, HG⟩ := hrel
    have hB := HG.out.below
    have c0 : wr.cell? ⟨g, 0, none⟩ = some (.int .i64 x) := (hB.cell kg).trans k0.out
    have c1 : wr.cell? ⟨g, 1, none⟩ = some (.int .i64 y) := (hB.cell kg).trans k1.out
    rcases (show k = 0 ∨ k = 1 ∨ k = 2 by omega) with rfl | rfl | rfl
    · cases hz : (x != 0) with
      | true =>
        have HE : Hid (orI x y = x) := Lib.hid (by unfold orI; rw [if_neg (by simpa using hz)])
        go_wp2
        go_ret
        exact GRet.mk (int_eq HE.out.symm) HG.out
      | false =>
        have HX0 : Hid (0 < 1 → x = 0) := Lib.hid (fun _ => by simpa using hz)
        go_wp2
        go_roundg 1
        case measure => omega
        case rel => exact ⟨1, by omega, rfl, rfl, HX0, Lib.hid (fun h => by omega), HG⟩
    · cases hz : (y != 0) with
      | true =>
        have HE : Hid (orI x y = y) := Lib.hid (by unfold orI; rw [if_pos (HX.out (by omega))])
        go_wp2
        go_ret
        exact GRet.mk (int_eq HE.out.symm) HG.out
      | false =>
        have HX0 : Hid (0 < 2 → x = 0) := Lib.hid (fun _ => HX.out (by omega))
        have HY0 : Hid (1 < 2 → y = 0) := Lib.hid (fun _ => by simpa using hz)
        go_wp2
        go_roundg 0
        case measure => omega
        case rel => exact ⟨2, by omega, rfl, rfl, HX0, HY0, HG⟩
    · have HE : Hid (orI x y = 0) := Lib.hid (by unfold orI; rw [if_pos (HX.out (by omega))]; exact HY.out (by omega))
      go_wp2
      go_ret
      exact GRet.mk (int_eq HE.out.symm) HG.out

set_option maxHeartbeats 1600000 in
theorem compare_gr (a b : W) (w : World) : Calls Try.prog 31 #[.agg #[.int .i64 a.id, .int .i64 a.wear], .agg #[.int .i64 b.id, .int .i64 b.wear]] w (GRet w (.int .i64 (orI (cmpI a.wear b.wear) (cmpI a.id b.id)))) := by
  have S0 := Lib.hid (((Sep.nil_ w).new 25 a.cells).new 25 b.cells)
  obtain ⟨ai, aw⟩ := a
  obtain ⟨bi, bw⟩ := b
  simp only [W.cells] at S0 ⊢
  have cC := Lib.hid (fun x y W => cmp_gr x y W)
  have G0 : Hid (Gr w ((w.alloc (.cells #[.int .i64 ai, .int .i64 aw] 25)).alloc (.cells #[.int .i64 bi, .int .i64 bw] 25))) := Lib.hid (((Gr.refl w).alloc _).alloc _)
  go_enter Try.func31, Try.ntmps31
  go_upto_region 1 with (fail)
  have hsz : (w.alloc (.cells #[.int .i64 ai, .int .i64 aw] 25)).heap.size = w.heap.size + 1 := by simp
  rw [hsz] at S0
  generalize ((w.alloc (.cells #[.int .i64 ai, .int .i64 aw] 25)).alloc (.cells #[.int .i64 bi, .int .i64 bw] 25)) = wo at S0 G0 ⊢
  generalize w.heap.size = g0 at S0 ⊢
  have d0 := fun y : GrownOf wo => y.cell (S0.out.cell 0 rfl (k := 0) rfl)
  have d1 := fun y : GrownOf wo => y.cell (S0.out.cell 0 rfl (k := 1) rfl)
  have d2 := fun y : GrownOf wo => y.cell (S0.out.cell 1 rfl (k := 0) rfl)
  have d3 := fun y : GrownOf wo => y.cell (S0.out.cell 1 rfl (k := 1) rfl)
  refine wp_region_tailG 10 (by kernel_rfl) (by kernel_rfl) ?_
  simp only [List.take_succ_cons, List.take_zero, List.drop_succ_cons, List.drop_zero]
  repeat (go_big_quiet_step ((go_at_call 50; exact Calls.grown (cC.out _ _ _))))
  refine wpQuiet_nil ?_; intro xw hw'; obtain ⟨xq, hw''⟩ := hw'; obtain ⟨xw0, xh⟩ := xq; change xw = xw0 at hw''; subst hw''
  have S1 := Lib.hid (S0.out.later xh.below)
  have G1 := Lib.hid (G0.out.trans xh)
  clear S0 d0 d1 d2 d3 cC xh
  obtain ⟨c, hc⟩ : ∃ c, c = cmpI aw bw := ⟨_, rfl⟩
  obtain ⟨d, hd⟩ : ∃ d, d = cmpI ai bi := ⟨_, rfl⟩
  rw [← hc, ← hd]
  have HC := Lib.hid hc
  have HD := Lib.hid hd
  clear hc hd
  have S2 := Lib.hid (S1.out.new 3 [.int .i64 c, .int .i64 d])
  have G2 := Lib.hid (G1.out.alloc (.cells #[.int .i64 c, .int .i64 d] 3))
  go_wp2_with fail
  refine (or_gr c d xw.heap.size _ (S2.out.cell 2 rfl (k := 0) rfl) (S2.out.cell 2 rfl (k := 1) rfl)).mono ?_; rintro en w1 ⟨rfl, hb1⟩
  have G3 := Lib.hid (G2.out.trans hb1)
  clear S2 S1 G2
  go_wp2
  go_ret
  exact GRet.mk (int_eq (by rw [HC.out, HD.out])) G3.out

set_option maxHeartbeats 800000 in
theorem fless_gr (a b : W) (c : Bool) (w : World) (h : lt a b = c) : Calls Try.prog 34 #[.agg #[.int .i64 a.id, .int .i64 a.wear], .agg #[.int .i64 b.id, .int .i64 b.wear]] w (GRet w (.bool c)) := by
  have HH := Lib.hid h
  clear h
  obtain ⟨ai, aw⟩ := a
  obtain ⟨bi, bw⟩ := b
  have HB : Hid (Gr w ((w.alloc (.cells #[.int .i64 ai, .int .i64 aw] 25)).alloc (.cells #[.int .i64 bi, .int .i64 bw] 25))) := Lib.hid (((Gr.refl w).alloc _).alloc _)
  cases ht : (aw != bw) with
  | true =>
    have HE : Hid (decide (aw < bw) = c) := Lib.hid (by
      rw [← HH.out]
      have h1 : ¬ aw = bw := by simpa using ht
      simp [lt, h1])
    go_enter Try.func34, Try.ntmps34
    go_wp2
    go_ret
    exact GRet.mk (bool_eq HE.out) HB.out
  | false =>
    have HE : Hid (decide (ai < bi) = c) := Lib.hid (by
      rw [← HH.out]
      have h1 : aw = bw := by simpa using ht
      simp [lt, h1])
    go_enter Try.func34, Try.ntmps34
    go_wp2
    go_ret
    exact GRet.mk (bool_eq HE.out) HB.out

def fcmp (a b : W) : Int := if lt a b then -1 else if lt b a then 1 else 0
set_option maxHeartbeats 800000 in
theorem fs1_gr (a b : W) (w : World) : Calls Try.prog 33 #[.agg #[.int .i64 a.id, .int .i64 a.wear], .agg #[.int .i64 b.id, .int .i64 b.wear]] w (GRet w (.int .i64 (fcmp a b))) := by
  have S0 := Lib.hid (((Sep.nil_ w).new 25 a.cells).new 25 b.cells)
  have hsz : (w.alloc (.cells #[.int .i64 a.id, .int .i64 a.wear] 25)).heap.size = w.heap.size + 1 := by simp
  have G0 : Hid (Gr w ((w.alloc (.cells #[.int .i64 a.id, .int .i64 a.wear] 25)).alloc (.cells #[.int .i64 b.id, .int .i64 b.wear] 25))) := Lib.hid (((Gr.refl w).alloc _).alloc _)
  have c1 := Lib.hid (fun c W h => fless_gr a b c W h)
  have c2 := Lib.hid (fun c W h => fless_gr b a c W h)
  have HE : Hid (fcmp a b = if lt a b then -1 else if lt b a then 1 else 0) := Lib.hid rfl
  generalize fcmp a b = r at HE ⊢
  generalize lt a b = l1 at HE c1
  generalize lt b a = l2 at HE c2
  obtain ⟨ai, aw⟩ := a
  obtain ⟨bi, bw⟩ := b
  simp only [W.cells] at S0 c1 c2 hsz G0 ⊢
  rw [hsz] at S0
  have d0 := S0.out.cell 0 rfl (k := 0) rfl
  have d1 := S0.out.cell 0 rfl (k := 1) rfl
  have d2 := S0.out.cell 1 rfl (k := 0) rfl
  have d3 := S0.out.cell 1 rfl (k := 1) rfl
  clear hsz
  go_enter Try.func33, Try.ntmps33
  cases l1 with
  | true =>
    obtain rfl : r = -1 := by simpa using HE.out
    go_wp2_with fail
    refine (c1.out true _ rfl).mono ?_; rintro en w1 ⟨rfl, hb1⟩
    have G1 := Lib.hid (G0.out.trans hb1)
    clear hb1 d0 d1 d2 d3 S0
    go_wp2
    go_ret
    exact ⟨rfl, G1.out⟩
  | false =>
    go_wp2_with fail
    refine (c1.out false _ rfl).mono ?_; rintro en w1 ⟨rfl, hb1⟩
    have G1 := Lib.hid (G0.out.trans hb1)
    have S1 := Lib.hid (S0.out.later hb1.below)
    clear hb1 d0 d1 d2 d3 S0
    have d0 := S1.out.cell 0 rfl (k := 0) rfl
    have d1 := S1.out.cell 0 rfl (k := 1) rfl
    have d2 := S1.out.cell 1 rfl (k := 0) rfl
    have d3 := S1.out.cell 1 rfl (k := 1) rfl
    cases l2 with
    | true =>
      obtain rfl : r = 1 := by simpa using HE.out
      go_wp2_with fail
      refine (c2.out true _ rfl).mono ?_; rintro en w2 ⟨rfl, hb2⟩
      have G2 := Lib.hid (G1.out.trans hb2)
      clear hb2 d0 d1 d2 d3 S1
      go_wp2
      go_ret
      exact ⟨rfl, G2.out⟩
    | false =>
      obtain rfl : r = 0 := by simpa using HE.out
      go_wp2_with fail
      refine (c2.out false _ rfl).mono ?_; rintro en w2 ⟨rfl, hb2⟩
      have G2 := Lib.hid (G1.out.trans hb2)
      clear hb2 d0 d1 d2 d3 S1
      go_wp2
      go_ret
      exact ⟨rfl, G2.out⟩
end Hk
end Go.Proofs.Ytfljbiobiobamab
