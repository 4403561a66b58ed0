/-
  Walks of the heap's comparisons: cmp.Compare, cmp.Or, heap.compare, heap.less and the reference's FLess. Conditions: none.
-/
import Derived.Test.YtfljbiobiobamabHpM
import Derived.Test.YtfljbiobiobamabSlices
namespace Go.Proofs.Ytfljbiobiobamab
open Go.RowKit
set_option linter.unusedVariables false
namespace Hp

def W.cells (x : W) : List Value := [.int .i64 x.id, .int .i64 x.wear]
theorem W.len : ∀ x : W, x.cells.length = 2 := fun _ => rfl
theorem W.facts {w wr : World} {b off Bd k : Nat} {l : List W} {x : W} (hb : b < Bd) (hB : Below Bd w wr) (hc : ∀ (i j : Nat) (x : W) (u : Value), l[i]? = some x → x.cells[j]? = some u → w.cell? ⟨b, off + (i * 2 + j), none⟩ = some u)
    (hx : l[k]? = some x) : wr.cell? ⟨b, off + k * 2, none⟩ = some (.int .i64 x.id) ∧ wr.cell? ⟨b, off + k * 2 + 1, none⟩ = some (.int .i64 x.wear) :=
  ⟨(hB.cell hb).trans (hc k 0 x _ hx rfl), (hB.cell hb).trans (hc k 1 x _ hx rfl)⟩
theorem W.rowCells {l : List W} {k : Nat} {x : W} (hx : l[k]? = some x) : (l.flatMap W.cells)[k * 2]? = some (.int .i64 x.id) ∧ (l.flatMap W.cells)[k * 2 + 1]? = some (.int .i64 x.wear) :=
  ⟨flat_get W.len l k 0 x hx (by omega), flat_get W.len l k 1 x hx (by omega)⟩
theorem W.one (l : List W) : ∀ u ∈ l.flatMap W.cells, u.oneCell' = true := by
  intro u hu
  rw [List.mem_flatMap] at hu
  obtain ⟨x, _, hu⟩ := hu
  simp only [W.cells, List.mem_cons, List.not_mem_nil, or_false] at hu
  rcases hu with rfl | rfl <;> rfl
theorem worn_info : (Try.prog.info? 25).map (fun i => (i.zero, i.size, i.bytes)) = some (some (.agg #[.int .i64 0, .int .i64 0]), 2, 16) := by kernel_rfl

def cmpI (x y : Int) : Int := if x < y then -1 else if y < x then 1 else 0
set_option maxHeartbeats 400000 in
theorem cmp_any (x y : Int) (w : World) : Calls Try.prog 50 #[.int .i64 x, .int .i64 y] w (Ret w (.int .i64 (cmpI x y))) := by
  rcases Int.lt_trichotomy x y with h | h | h
  · rw [show cmpI x y = -1 from if_pos h]
    go_enter Try.func50, Try.ntmps50
    go_wp2
    go_ret
    exact Ret.mk rfl (Below.refl _ _)
  · subst h
    rw [show cmpI x x = 0 by simp [cmpI]]
    go_enter Try.func50, Try.ntmps50
    go_wp2
    go_ret
    exact Ret.mk rfl (Below.refl _ _)
  · rw [show cmpI x y = 1 by unfold cmpI; rw [if_neg (by omega), if_pos h]]
    have h2 : ¬ x < y := by omega
    go_enter Try.func50, Try.ntmps50
    go_wp2
    go_ret
    exact Ret.mk rfl (Below.refl _ _)

def orI (x y : Int) : Int := if x = 0 then y else x
set_option maxHeartbeats 800000 in
theorem or_any (x y : Int) (g : Nat) (w : World) (h0 : w.cell? ⟨g, 0, none⟩ = some (.int .i64 x)) (h1 : w.cell? ⟨g, 1, none⟩ = some (.int .i64 y)) :
    Calls Try.prog 49 #[.slice (some ⟨g, 0, none⟩) 2 2] w (Ret w (.int .i64 (orI x y))) := by
  have k0 := Lib.hid h0
  have k1 := Lib.hid h1
  have kg : g < w.heap.size := World.block_lt_of_cell? w _ h0
  clear h0 h1
  go_enter Try.func49, Try.ntmps49
  go_wp2
  go_loopg [8] 2 (fun gg i wr => ∃ k : Nat, k ≤ 2 ∧ gg = 2 - k ∧ i = .int .i64 k ∧ Hid (0 < k → x = 0) ∧ Hid (1 < k → y = 0) ∧ Below w.heap.size w wr)
  case atStart => exact ⟨0, by omega, rfl, rfl, Lib.hid (fun h => by omega), Lib.hid (fun h => by omega), Below.refl _ _⟩
  case round =>
    obtain ⟨k, hk, rfl, rfl, HX, HY, hB⟩ := hrel
    have c0 : wr.cell? ⟨g, 0, none⟩ = some (.int .i64 x) := (hB.cell kg).trans k0.out
    have c1 : wr.cell? ⟨g, 1, none⟩ = some (.int .i64 y) := (hB.cell kg).trans k1.out
    rcases (show k = 0 ∨ k = 1 ∨ k = 2 by omega) with rfl | rfl | rfl
    · cases hz : (x != 0) with
      | true =>
        have HE : Hid (orI x y = x) := Lib.hid (by unfold orI; rw [if_neg (by simpa using hz)])
        go_wp2
        go_ret
        exact Ret.mk (int_eq HE.out.symm) hB
      | false =>
        have HX0 : Hid (0 < 1 → x = 0) := Lib.hid (fun _ => by simpa using hz)
        go_wp2
        go_roundg 1
        case measure => omega
        case rel => exact ⟨1, by omega, rfl, rfl, HX0, Lib.hid (fun h => by omega), hB⟩
    · cases hz : (y != 0) with
      | true =>
        have HE : Hid (orI x y = y) := Lib.hid (by unfold orI; rw [if_pos (HX.out (by omega))])
        go_wp2
        go_ret
        exact Ret.mk (int_eq HE.out.symm) hB
      | false =>
        have HX0 : Hid (0 < 2 → x = 0) := Lib.hid (fun _ => HX.out (by omega))
        have HY0 : Hid (1 < 2 → y = 0) := Lib.hid (fun _ => by simpa using hz)
        go_wp2
        go_roundg 0
        case measure => omega
        case rel => exact ⟨2, by omega, rfl, rfl, HX0, HY0, hB⟩
    · have HE : Hid (orI x y = 0) := Lib.hid (by unfold orI; rw [if_pos (HX.out (by omega))]; exact HY.out (by omega))
      go_wp2
      go_ret
      exact Ret.mk (int_eq HE.out.symm) hB

theorem cmp_lt (a b : W) : decide (orI (cmpI a.wear b.wear) (cmpI a.id b.id) < 0) = lt a b := by
  unfold orI cmpI lt
  rcases Int.lt_trichotomy a.wear b.wear with h | h | h
  · simp [h]
  · rcases Int.lt_trichotomy a.id b.id with h' | h' | h'
    · simp [h, h']
    · simp [h, h']
    · have h1 : ¬ a.id < b.id := by omega
      simp [h, h', h1]
  · have h1 : ¬ a.wear < b.wear := by omega
    have h2 : ¬ a.wear = b.wear := by omega
    simp [h, h1, h2]
set_option maxHeartbeats 1600000 in
theorem compare_any (a b : W) (w : World) : Calls Try.prog 31 #[.agg #[.int .i64 a.id, .int .i64 a.wear], .agg #[.int .i64 b.id, .int .i64 b.wear]] w (Ret w (.int .i64 (orI (cmpI a.wear b.wear) (cmpI a.id b.id)))) := by
  have S0 := Lib.hid (((Sep.nil_ w).new 25 a.cells).new 25 b.cells)
  obtain ⟨ai, aw⟩ := a
  obtain ⟨bi, bw⟩ := b
  simp only [W.cells] at S0 ⊢
  have cC := Lib.hid (fun x y W => cmp_any x y W)
  go_enter Try.func31, Try.ntmps31
  go_upto_region 1 with (fail)
  have hsz : (w.alloc (.cells #[.int .i64 ai, .int .i64 aw] 25)).heap.size = w.heap.size + 1 := by simp
  rw [hsz] at S0
  generalize ((w.alloc (.cells #[.int .i64 ai, .int .i64 aw] 25)).alloc (.cells #[.int .i64 bi, .int .i64 bw] 25)) = wo at S0 ⊢
  generalize w.heap.size = g0 at S0 ⊢
  have d0 := fun y : LaterOf wo => y.cell (S0.out.cell 0 rfl (k := 0) rfl)
  have d1 := fun y : LaterOf wo => y.cell (S0.out.cell 0 rfl (k := 1) rfl)
  have d2 := fun y : LaterOf wo => y.cell (S0.out.cell 1 rfl (k := 0) rfl)
  have d3 := fun y : LaterOf wo => y.cell (S0.out.cell 1 rfl (k := 1) rfl)
  refine wp_region_tail 10 (by kernel_rfl) (by kernel_rfl) ?_
  simp only [List.take_succ_cons, List.take_zero, List.drop_succ_cons, List.drop_zero]
  repeat (go_big_quiet_step ((go_at_call 50; exact Calls.later (cC.out _ _ _))))
  refine wpQuiet_nil ?_; intro xw hw'; obtain ⟨xq, hw''⟩ := hw'; obtain ⟨xw0, xh⟩ := xq; change xw = xw0 at hw''; subst hw''
  have S1 := Lib.hid (S0.out.later xh)
  clear S0 d0 d1 d2 d3 cC
  obtain ⟨c, hc⟩ : ∃ c, c = cmpI aw bw := ⟨_, rfl⟩
  obtain ⟨d, hd⟩ : ∃ d, d = cmpI ai bi := ⟨_, rfl⟩
  rw [← hc, ← hd]
  have HC := Lib.hid hc
  have HD := Lib.hid hd
  clear hc hd
  have S2 := Lib.hid (S1.out.new 3 [.int .i64 c, .int .i64 d])
  go_wp2_with fail
  refine (or_any c d xw.heap.size _ (S2.out.cell 2 rfl (k := 0) rfl) (S2.out.cell 2 rfl (k := 1) rfl)).mono ?_; rintro en w1 ⟨rfl, hb1⟩
  have S3 := Lib.hid (S2.out.later hb1)
  clear S2 S1
  go_wp2
  go_ret
  exact Ret.mk (int_eq (by rw [HC.out, HD.out])) S3.out.below
set_option maxHeartbeats 800000 in
theorem less_is (a b : W) (c : Bool) (w : World) (h : lt a b = c) : Calls Try.prog 46 #[.agg #[.int .i64 a.id, .int .i64 a.wear], .agg #[.int .i64 b.id, .int .i64 b.wear]] w (Ret w (.bool c)) := by
  have S0 := Lib.hid (((Sep.nil_ w).new 25 a.cells).new 25 b.cells)
  have hlt := (cmp_lt a b).trans h
  have hsz : (w.alloc (.cells #[.int .i64 a.id, .int .i64 a.wear] 25)).heap.size = w.heap.size + 1 := by simp
  have cK := Lib.hid (compare_any a b ((w.alloc (.cells #[.int .i64 a.id, .int .i64 a.wear] 25)).alloc (.cells #[.int .i64 b.id, .int .i64 b.wear] 25)))
  generalize orI (cmpI a.wear b.wear) (cmpI a.id b.id) = r at hlt cK
  have HLT := Lib.hid hlt
  obtain ⟨ai, aw⟩ := a
  obtain ⟨bi, bw⟩ := b
  simp only [W.cells] at S0 cK hsz ⊢
  rw [hsz] at S0
  have d0 := S0.out.cell 0 rfl (k := 0) rfl
  have d1 := S0.out.cell 0 rfl (k := 1) rfl
  have d2 := S0.out.cell 1 rfl (k := 0) rfl
  have d3 := S0.out.cell 1 rfl (k := 1) rfl
  clear hlt h hsz
  go_enter Try.func46, Try.ntmps46
  go_wp2_with fail
  refine cK.out.mono ?_; rintro en w1 ⟨rfl, hb1⟩
  have S3 := Lib.hid (S0.out.later hb1)
  clear S0 d0 d1 d2 d3 cK
  go_wp2
  go_ret
  exact Ret.mk (bool_eq HLT.out) S3.out.below
set_option maxHeartbeats 800000 in
theorem fless_is (a b : W) (c : Bool) (w : World) (h : lt a b = c) : Calls Try.prog 34 #[.agg #[.int .i64 a.id, .int .i64 a.wear], .agg #[.int .i64 b.id, .int .i64 b.wear]] w (Ret w (.bool c)) := by
  have S0 := Lib.hid (((Sep.nil_ w).new 25 a.cells).new 25 b.cells)
  have hB := S0.out.below
  have HB := Lib.hid hB
  have HH := Lib.hid h
  clear S0 hB h
  obtain ⟨ai, aw⟩ := a
  obtain ⟨bi, bw⟩ := b
  simp only [W.cells] at HB ⊢
  cases ht : (aw != bw) with
  | true =>
    have HE : Hid (decide (aw < bw) = c) := Lib.hid (by
      rw [← HH.out]
      have h1 : ¬ aw = bw := by simpa using ht
      simp [lt, h1])
    go_enter Try.func34, Try.ntmps34
    go_wp2
    go_ret
    exact Ret.mk (bool_eq HE.out) HB.out
  | false =>
    have HE : Hid (decide (ai < bi) = c) := Lib.hid (by
      rw [← HH.out]
      have h1 : aw = bw := by simpa using ht
      simp [lt, h1])
    go_enter Try.func34, Try.ntmps34
    go_wp2
    go_ret
    exact Ret.mk (bool_eq HE.out) HB.out
end Hp
end Go.Proofs.Ytfljbiobiobamab
