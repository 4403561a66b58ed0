/-
  Walks of heap.Pop and of the reference's FPop. Conditions: none.
-/
import Derived.Test.YtakmfjnfkjdbfaaHpW6
import Derived.Test.YtakmfjnfkjdbfaaHpW4
import Derived.Test.YtakmfjnfkjdbfaaPart
import Derived.Deep.RegionLaw
namespace Go.Proofs.Ytakmfjnfkjdbfaa
open Go.RowKit
set_option linter.unusedVariables false
namespace Hp

theorem wrap_nat (m : Nat) (h : m ≤ 9223372036854775807) : IntKind.i64.wrap (m : Int) = (m : Int) := (IntWalk.i64_left _).trans (IntWalk.wrap64_in _ ⟨by omega, by omega⟩)
def W.zero : W := ⟨0, 0⟩
def PopRet (w : World) (out : List W) (x : W) (e : Int) (en : Ending) (w' : World) : Prop :=
  ∃ A c, out.length ≤ c ∧ en = .returned (.tuple #[.slice A out.length c, .agg #[.int .i64 x.id, .int .i64 x.wear], .int .i64 e]) ∧ Sep w w' [.row 24 2 (.slice A out.length c) out.length (out.flatMap W.cells)]

set_option maxRecDepth 100000 in
set_option maxHeartbeats 1600000 in
theorem pop_bad (A : Option Addr) (n c : Nat) (l : List W) (w : World) (hr : Rd w w.heap.size 2 A n (l.flatMap W.cells)) (hl : l.length = n) (hn : n * 16 ≤ 140737488355328) (hbad : ¬ Rt l) :
    Calls Try.prog 11 #[.slice A n c] w (PopRet w [] .zero 1) := by
  have HS0 : Hid (Sep w (w.alloc (.cells #[.int .i64 0, .int .i64 0] 24)) [.cells w.heap.size 24 W.zero.cells]) := Lib.hid ((Sep.nil_ w).new 24 W.zero.cells)
  have cR := Lib.hid (right_is A n c l false _ (hr.later HS0.out.below) hl hn (rt_false hbad))
  clear hr hl hbad
  go_enter Try.func11, Try.ntmps11
  go_wp2_with fail
  refine cR.out.mono ?_; rintro e1 w1 ⟨rfl, hb1⟩
  have HS1 := Lib.hid (HS0.out.later hb1)
  clear cR hb1 HS0
  have d0 := HS1.out.cell 0 rfl (k := 0) rfl
  have d1 := HS1.out.cell 0 rfl (k := 1) rfl
  have u0 := HS1.out.froz 0 rfl (k := 0)
  have u1 := HS1.out.froz 0 rfl (k := 1)
  have HS2 : Hid (Sep w ((w1.setCell ⟨w.heap.size, 0, none⟩ (.int .i64 0)).setCell ⟨w.heap.size, 1, none⟩ (.int .i64 0)) [.cells w.heap.size 24 W.zero.cells]) := Lib.hid ((HS1.out.set 0 rfl (k := 0) (.int .i64 0)).set 0 rfl (k := 1) (.int .i64 0))
  clear HS1
  go_wp2
  have f0 := HS2.out.cell 0 rfl (k := 0) rfl
  have f1 := HS2.out.cell 0 rfl (k := 1) rfl
  refine bodyPost_ret (v := .tuple #[.slice none 0 0, .agg #[.int .i64 0, .int .i64 0], .int .i64 1]) (by simp [results, Try.results11, asAddr, Result.andThen, go_sem, f0, f1, W.zero]) rfl ?_
  exact ⟨none, 0, Nat.le_refl _, rfl, (HS2.out.pick [] (by decide) (by simp)).nilRow 24 2 none⟩
set_option maxRecDepth 100000 in
set_option maxHeartbeats 1600000 in
theorem pop_none (A : Option Addr) (c : Nat) (w : World) :
    Calls Try.prog 11 #[.slice A 0 c] w (PopRet w [] .zero 3) := by
  have HS0 : Hid (Sep w (w.alloc (.cells #[.int .i64 0, .int .i64 0] 24)) [.cells w.heap.size 24 W.zero.cells]) := Lib.hid ((Sep.nil_ w).new 24 W.zero.cells)
  have hrt : Rt ([] : List W) := fun k x y h1 h2 h3 => by simp at h2
  have cR := Lib.hid (fun V => right_is A 0 c [] true V ⟨rfl, fun h => absurd h (by omega)⟩ rfl (by omega) (rt_true hrt))
  clear hrt
  go_enter Try.func11, Try.ntmps11
  go_wp2_with fail
  refine (cR.out _).mono ?_; rintro e1 w1 ⟨rfl, hb1⟩
  have HS1 := Lib.hid (HS0.out.later hb1)
  clear cR hb1 HS0
  have d0 := HS1.out.cell 0 rfl (k := 0) rfl
  have d1 := HS1.out.cell 0 rfl (k := 1) rfl
  have u0 := HS1.out.froz 0 rfl (k := 0)
  have u1 := HS1.out.froz 0 rfl (k := 1)
  have HS2 : Hid (Sep w ((w1.setCell ⟨w.heap.size, 0, none⟩ (.int .i64 0)).setCell ⟨w.heap.size, 1, none⟩ (.int .i64 0)) [.cells w.heap.size 24 W.zero.cells]) := Lib.hid ((HS1.out.set 0 rfl (k := 0) (.int .i64 0)).set 0 rfl (k := 1) (.int .i64 0))
  clear HS1
  go_wp2
  have f0 := HS2.out.cell 0 rfl (k := 0) rfl
  have f1 := HS2.out.cell 0 rfl (k := 1) rfl
  refine bodyPost_ret (v := .tuple #[.slice none 0 0, .agg #[.int .i64 0, .int .i64 0], .int .i64 3]) (by simp [results, Try.results11, asAddr, Result.andThen, go_sem, f0, f1, W.zero]) rfl ?_
  exact ⟨none, 0, Nat.le_refl _, rfl, (HS2.out.pick [] (by decide) (by simp)).nilRow 24 2 none⟩
set_option maxRecDepth 100000 in
set_option maxHeartbeats 1600000 in
theorem fpop_bad (A : Option Addr) (n c : Nat) (l : List W) (w : World) (hr : Rd w w.heap.size 2 A n (l.flatMap W.cells)) (hl : l.length = n) (hn : n * 16 ≤ 140737488355328) (hbad : ¬ Rt l) :
    Calls Try.prog 12 #[.slice A n c] w (PopRet w [] .zero 1) := by
  have HS0 : Hid (Sep w (w.alloc (.cells #[.int .i64 0, .int .i64 0] 24)) [.cells w.heap.size 24 W.zero.cells]) := Lib.hid ((Sep.nil_ w).new 24 W.zero.cells)
  have cR := Lib.hid (fright_is A n c l false _ (hr.later HS0.out.below) hl hn (rt_false hbad))
  clear hr hl hbad
  go_enter Try.func12, Try.ntmps12
  go_wp2_with fail
  refine cR.out.mono ?_; rintro e1 w1 ⟨rfl, hb1⟩
  have HS1 := Lib.hid (HS0.out.later hb1)
  clear cR hb1 HS0
  have d0 := HS1.out.cell 0 rfl (k := 0) rfl
  have d1 := HS1.out.cell 0 rfl (k := 1) rfl
  have u0 := HS1.out.froz 0 rfl (k := 0)
  have u1 := HS1.out.froz 0 rfl (k := 1)
  have HS2 : Hid (Sep w ((w1.setCell ⟨w.heap.size, 0, none⟩ (.int .i64 0)).setCell ⟨w.heap.size, 1, none⟩ (.int .i64 0)) [.cells w.heap.size 24 W.zero.cells]) := Lib.hid ((HS1.out.set 0 rfl (k := 0) (.int .i64 0)).set 0 rfl (k := 1) (.int .i64 0))
  clear HS1
  go_wp2
  have f0 := HS2.out.cell 0 rfl (k := 0) rfl
  have f1 := HS2.out.cell 0 rfl (k := 1) rfl
  refine bodyPost_ret (v := .tuple #[.slice none 0 0, .agg #[.int .i64 0, .int .i64 0], .int .i64 1]) (by simp [results, Try.results12, asAddr, Result.andThen, go_sem, f0, f1, W.zero]) rfl ?_
  exact ⟨none, 0, Nat.le_refl _, rfl, (HS2.out.pick [] (by decide) (by simp)).nilRow 24 2 none⟩
set_option maxRecDepth 100000 in
set_option maxHeartbeats 1600000 in
theorem fpop_none (A : Option Addr) (c : Nat) (w : World) :
    Calls Try.prog 12 #[.slice A 0 c] w (PopRet w [] .zero 3) := by
  have HS0 : Hid (Sep w (w.alloc (.cells #[.int .i64 0, .int .i64 0] 24)) [.cells w.heap.size 24 W.zero.cells]) := Lib.hid ((Sep.nil_ w).new 24 W.zero.cells)
  have hrt : Rt ([] : List W) := fun k x y h1 h2 h3 => by simp at h2
  have cR := Lib.hid (fun V => fright_is A 0 c [] true V ⟨rfl, fun h => absurd h (by omega)⟩ rfl (by omega) (rt_true hrt))
  clear hrt
  go_enter Try.func12, Try.ntmps12
  go_wp2_with fail
  refine (cR.out _).mono ?_; rintro e1 w1 ⟨rfl, hb1⟩
  have HS1 := Lib.hid (HS0.out.later hb1)
  clear cR hb1 HS0
  have d0 := HS1.out.cell 0 rfl (k := 0) rfl
  have d1 := HS1.out.cell 0 rfl (k := 1) rfl
  have u0 := HS1.out.froz 0 rfl (k := 0)
  have u1 := HS1.out.froz 0 rfl (k := 1)
  have HS2 : Hid (Sep w ((w1.setCell ⟨w.heap.size, 0, none⟩ (.int .i64 0)).setCell ⟨w.heap.size, 1, none⟩ (.int .i64 0)) [.cells w.heap.size 24 W.zero.cells]) := Lib.hid ((HS1.out.set 0 rfl (k := 0) (.int .i64 0)).set 0 rfl (k := 1) (.int .i64 0))
  clear HS1
  go_wp2
  have f0 := HS2.out.cell 0 rfl (k := 0) rfl
  have f1 := HS2.out.cell 0 rfl (k := 1) rfl
  refine bodyPost_ret (v := .tuple #[.slice none 0 0, .agg #[.int .i64 0, .int .i64 0], .int .i64 3]) (by simp [results, Try.results12, asAddr, Result.andThen, go_sem, f0, f1, W.zero]) rfl ?_
  exact ⟨none, 0, Nat.le_refl _, rfl, (HS2.out.pick [] (by decide) (by simp)).nilRow 24 2 none⟩

theorem cut_cells (l : List W) (m : Nat) (n : Nat) (h : l.length = n) : (l.flatMap W.cells).take (m * 2) = (l.take m).flatMap W.cells := flat_take W.len l m

set_option maxRecDepth 100000 in
set_option maxHeartbeats 3200000 in
theorem pop_any (A : Option Addr) (m c : Nat) (l lf : List W) (x y : W) (w : World) (hr : Rd w w.heap.size 2 A (m + 1) (l.flatMap W.cells)) (hl : l.length = m + 1) (hn : (m + 1) * 16 ≤ 140737488355328) (hrt : Rt l) (hx : l[0]? = some x) (hy : l[m]? = some y) (hd : Down ((l.set 0 y).take m) 0 lf) (hlf : lf.length = m) :
    Calls Try.prog 11 #[.slice A (m + 1) c] w (PopRet w lf x 0) := by
  obtain ⟨ti, hti, t0, t1, t2⟩ := info_parts worn_info
  have HS0 : Hid (Sep w (w.alloc (.cells #[.int .i64 0, .int .i64 0] 24)) [.cells w.heap.size 24 W.zero.cells]) := Lib.hid ((Sep.nil_ w).new 24 W.zero.cells)
  have cR := Lib.hid (right_is A (m + 1) c l true _ (hr.later HS0.out.below) hl hn (rt_true hrt))
  have HR := Lib.hid hr
  have HL := Lib.hid hl
  have HD := Lib.hid hd
  have HLF := Lib.hid hlf
  have cx : (l.flatMap W.cells)[0]? = some (.int .i64 x.id) ∧ (l.flatMap W.cells)[1]? = some (.int .i64 x.wear) := W.rowCells hx
  have cy := W.rowCells hy
  clear hr hl hrt hd hlf hx hy
  go_enter Try.func11, Try.ntmps11
  go_wp2_with fail
  refine cR.out.mono ?_; rintro e1 w1 ⟨rfl, hb1⟩
  have HS1 := Lib.hid (HS0.out.later hb1)
  clear cR hb1 HS0
  have ht : (((m + 1 : Nat) : Int) == 0) = false := by simp; omega
  have cC := Lib.hid (clone_any A (m + 1) c (l.flatMap W.cells) w1 (HR.out.later HS1.out.below) (W.one l) hn (by omega))
  go_wp2_with fail
  refine cC.out.mono ?_; rintro e1 w2 ⟨A5, c5, hc5, rfl, K5⟩
  have HS2 := Lib.hid (HS1.out.join K5)
  clear cC HS1 K5
  obtain ⟨g, rfl, hg, hat⟩ := HS2.out.rowAt 1 rfl (by omega)
  generalize w.heap.size = gb at HS2 hg ⊢
  have d0 := (hat _).1 _ cx.1
  have d1 := (hat _).1 _ cx.2
  have k1 : ((m + 1 : Nat) : Int) - 1 = (m : Int) := by omega
  have k2 : (0 : Int) < ((m + 1 : Nat) : Int) := by omega
  clear hat
  have HS3 : Hid (Sep w (w2.alloc (.cells #[.int .i64 x.id, .int .i64 x.wear] 24)) [.cells gb 24 W.zero.cells, .row 24 2 (.slice (some ⟨g, 0, none⟩) (m + 1) c5) (m + 1) (l.flatMap W.cells), .cells w2.heap.size 24 x.cells]) := Lib.hid (HS2.out.new 24 x.cells)
  go_upto_region 7 with (fail)
  generalize w2.alloc (.cells #[.int .i64 x.id, .int .i64 x.wear] 24) = w3 at HS3 ⊢
  generalize w2.heap.size = gx at HS3 ⊢
  clear HS2 d0 d1
  obtain ⟨g', hg', _, hat⟩ := HS3.out.rowAt 1 rfl (by omega)
  cases hg'
  have d0 := (hat _).1 _ cx.1
  have d1 := (hat _).1 _ cx.2
  have e0 := (hat _).1 _ cy.1
  have e1 := (hat _).1 _ cy.2
  have u0 := (hat 0).2.1
  have u1 := (hat 1).2.1
  have m0 : (0 : Int) ≤ (m : Int) := by omega
  have m1 : (m : Int) < ((m + 1 : Nat) : Int) := by omega
  clear hat
  have K : Hid (Sep w ((w3.setCell ⟨g, 0, none⟩ (.int .i64 y.id)).setCell ⟨g, 1, none⟩ (.int .i64 y.wear)) [.cells gb 24 W.zero.cells, .row 24 2 (.slice (some ⟨g, 0, none⟩) (m + 1) c5) (m + 1) ((l.set 0 y).flatMap W.cells), .cells gx 24 x.cells]) := Lib.hid (HS3.out.elem W.len 1 rfl 0 (by have := HL.out; omega) (by omega) y)
  have hup := upto_run (P := Try.prog) Try.underlying22 (size_of_info hti t1) (some ⟨g, 0, none⟩) (m + 1) c5 m (by omega)
  go_upto_region 9 with (fail)
  clear d0 d1 e0 e1 u0 u1 HS3
  generalize (w3.setCell ⟨g, 0, none⟩ (.int .i64 y.id)).setCell ⟨g, 1, none⟩ (.int .i64 y.wear) = w4 at K ⊢
  have K2 : Hid (Sep w w4 [.row 24 2 (.slice (some ⟨g, 0, none⟩) m c5) m (((l.set 0 y).take m).flatMap W.cells), .cells gb 24 W.zero.cells, .cells gx 24 x.cells]) := Lib.hid (by
    have := (K.out.cut 1 rfl (m := m) (by omega)).pick [1, 0, 2] (by decide) (by simp)
    rw [flat_take W.len] at this
    exact this)
  clear K hup
  go_wp2_with fail
  refine (down_any (some ⟨g, 0, none⟩) m c5 0 ((l.set 0 y).take m) lf w w4 _ K2.out (by rw [List.length_take, List.length_set, HL.out]; omega) (by omega) (by omega) HD.out).mono ?_
  rintro e1 w5 ⟨rfl, K3⟩
  have HS5 := Lib.hid K3
  clear K3 K2
  have d0 := HS5.out.cell 1 rfl (k := 0) rfl
  have d1 := HS5.out.cell 1 rfl (k := 1) rfl
  have e0 := HS5.out.cell 2 rfl (k := 0) rfl
  have e1 := HS5.out.cell 2 rfl (k := 1) rfl
  have u0 := HS5.out.froz 1 rfl (k := 0)
  have u1 := HS5.out.froz 1 rfl (k := 1)
  have K := Lib.hid (((HS5.out.set 1 rfl (k := 0) (.int .i64 x.id)).set 1 rfl (k := 1) (.int .i64 x.wear)).drew)
  go_wp2
  go_region
  all_goals
    go_wp2
    have f0 := K.out.cell 1 rfl (k := 0) rfl
    have f1 := K.out.cell 1 rfl (k := 1) rfl
    refine bodyPost_ret (v := .tuple #[.slice (some ⟨g, 0, none⟩) m c5, .agg #[.int .i64 x.id, .int .i64 x.wear], .int .i64 0]) (by simp [results, Try.results11, asAddr, Result.andThen, go_sem, f0, f1]) rfl ?_
    unfold PopRet
    rw [HLF.out]
    exact ⟨_, c5, by omega, rfl, K.out.pick [0] (by decide) (by simp)⟩

set_option maxRecDepth 100000 in
set_option maxHeartbeats 1600000 in
theorem fpop_one (A : Option Addr) (c : Nat) (l : List W) (x : W) (w : World) (hr : Rd w w.heap.size 2 A 1 (l.flatMap W.cells)) (hl : l.length = 1) (hrt : Rt l) (hx : l[0]? = some x) :
    Calls Try.prog 12 #[.slice A 1 c] w (PopRet w [] x 0) := by
  have HS0 : Hid (Sep w (w.alloc (.cells #[.int .i64 0, .int .i64 0] 24)) [.cells w.heap.size 24 W.zero.cells]) := Lib.hid ((Sep.nil_ w).new 24 W.zero.cells)
  have cR := Lib.hid (fright_is A 1 c l true _ (hr.later HS0.out.below) hl (by omega) (rt_true hrt))
  obtain ⟨b, off, rfl, hb, hc⟩ := hr.at_ W.len (by omega)
  have hx0 : w.cell? ⟨b, off, none⟩ = some (.int .i64 x.id) := hc 0 0 x _ hx rfl
  have hx1 : w.cell? ⟨b, off + 1, none⟩ = some (.int .i64 x.wear) := hc 0 1 x _ hx rfl
  have HX0 := Lib.hid hx0
  have HX1 := Lib.hid hx1
  clear hr hl hrt hc hx hx0 hx1
  go_enter Try.func12, Try.ntmps12
  go_wp2_with fail
  refine cR.out.mono ?_; rintro e1 w1 ⟨rfl, hb1⟩
  have HS5 := Lib.hid (HS0.out.later hb1)
  clear cR hb1 HS0
  have e0 : w1.cell? ⟨b, off, none⟩ = some (.int .i64 x.id) := (HS5.out.below.cell hb).trans HX0.out
  have e1 : w1.cell? ⟨b, off + 1, none⟩ = some (.int .i64 x.wear) := (HS5.out.below.cell hb).trans HX1.out
  generalize w.heap.size = gb at HS5 ⊢
  have d0 := HS5.out.cell 0 rfl (k := 0) rfl
  have d1 := HS5.out.cell 0 rfl (k := 1) rfl
  have u0 := HS5.out.froz 0 rfl (k := 0)
  have u1 := HS5.out.froz 0 rfl (k := 1)
  have K := Lib.hid (((HS5.out.set 0 rfl (k := 0) (.int .i64 x.id)).set 0 rfl (k := 1) (.int .i64 x.wear)).drew)
  go_wp2
  go_region
  all_goals
    go_wp2
    have f0 := K.out.cell 0 rfl (k := 0) rfl
    have f1 := K.out.cell 0 rfl (k := 1) rfl
    refine bodyPost_ret (v := .tuple #[.slice none 0 0, .agg #[.int .i64 x.id, .int .i64 x.wear], .int .i64 0]) (by simp [results, Try.results12, asAddr, Result.andThen, go_sem, f0, f1]) rfl ?_
    exact ⟨none, 0, Nat.le_refl _, rfl, (K.out.pick [] (by decide) (by simp)).nilRow 24 2 none⟩

set_option maxRecDepth 100000 in
set_option maxHeartbeats 3200000 in
theorem fpop_any (A : Option Addr) (m c : Nat) (l lf : List W) (x y : W) (w : World) (hr : Rd w w.heap.size 2 A (m + 1) (l.flatMap W.cells)) (hl : l.length = m + 1) (hmc : m + 1 ≤ c) (hm : 0 < m) (hn : (m + 1) * 16 ≤ 140737488355328) (hrt : Rt l) (hx : l[0]? = some x) (hy : l[m]? = some y) (hd : Down ((l.set 0 y).take m) 0 lf) (hlf : lf.length = m) :
    Calls Try.prog 12 #[.slice A (m + 1) c] w (PopRet w lf x 0) := by
  obtain ⟨ti, hti, t0, t1, t2⟩ := info_parts worn_info
  have HS0 : Hid (Sep w (w.alloc (.cells #[.int .i64 0, .int .i64 0] 24)) [.cells w.heap.size 24 W.zero.cells]) := Lib.hid ((Sep.nil_ w).new 24 W.zero.cells)
  have cR := Lib.hid (fright_is A (m + 1) c l true _ (hr.later HS0.out.below) hl hn (rt_true hrt))
  have HR := Lib.hid hr
  have HL := Lib.hid hl
  have HD := Lib.hid hd
  have HLF := Lib.hid hlf
  have HX := Lib.hid hx
  have HY := Lib.hid hy
  obtain ⟨b, off, rfl, hb, hc⟩ := hr.at_ W.len (by omega)
  have HC := Lib.hid hc
  clear hr hl hrt hd hlf hx hy hc
  go_enter Try.func12, Try.ntmps12
  go_wp2_with fail
  refine cR.out.mono ?_; rintro e1 w1 ⟨rfl, hb1⟩
  have HS1 := Lib.hid (HS0.out.later hb1)
  clear cR hb1 HS0
  have ht : (((m + 1 : Nat) : Int) == 0) = false := by simp; omega
  have ht2 : (((m + 1 : Nat) : Int) == 1) = false := by simp; omega
  have k1 : ((m + 1 : Nat) : Int) - 1 = (m : Int) := by omega
  have k2 : (0 : Int) < ((m + 1 : Nat) : Int) := by omega
  have m0 : (0 : Int) ≤ (m : Int) := by omega
  have m1 : (m : Int) < ((m + 1 : Nat) : Int) := by omega
  obtain ⟨e0, e1⟩ := W.facts hb HS1.out.below HC.out HY.out
  obtain ⟨A', hsl, hrd⟩ := rd_part (P := Try.prog) (l := 1) (h := m) Try.underlying22 (size_of_info hti t1) HR.out (by omega) (by omega) hmc
  have HN := Lib.hid (HS1.out.drew.newRow 24 2 1 y.cells rfl (by simp [maxLen]))
  have HRD := Lib.hid hrd
  have hsl' : ∀ w', (Instr.slice 22 (.slice (some ⟨b, off, none⟩) (m + 1) c) (some (.int .i64 1)) (some (.int .i64 (m : Int))) none).run Try.prog w' = .ok (.slice A' (m - 1) (c - 1)) w' := hsl
  clear hrd hsl
  have hnews : ∀ u ∈ ((l.flatMap W.cells).take (m * 2)).drop (1 * 2), u.oneCell' = true := fun u hu => W.one l u (List.mem_of_mem_take (List.mem_of_mem_drop hu))
  have HNW := Lib.hid hnews
  have HRR := Lib.hid (HRD.out _ (fun p hp => HN.out.below.cell hp))
  clear hnews HRD
  have hw1 : IntKind.i64.wrap (m : Int) = (m : Int) := wrap_nat m (by omega)
  have hlt1 : (m : Int) < (m : Int) + 1 := by omega
  go_upto_region 7 with (fail)
  go_region_law (refine step_append_sep HN.out 1 rfl (.tmp 26) (.tmp 31) 22 rfl 24 ti (.agg #[.int .i64 0, .int .i64 0]) 2 16 Try.underlying22 hti t0 t1 t2 rfl (by omega) _ 1 _ (by simp [Act.eval]) rfl _ _ (m - 1) (c - 1) _ (by simp [Act.eval]) HRR.out HNW.out (by simp only [maxLen]; omega) (by omega) ?_; intro A7 c7 w7 hc7 hs7 H7)
  simp only [List.getElem_toArray, List.getElem_cons_succ, List.getElem_cons_zero, Act.put, List.setIfInBounds_toArray, List.set_cons_succ, List.set_cons_zero]
  have hm1 : 1 + (m - 1) = m := by omega
  have HL7 : Hid (y.cells ++ ((l.flatMap W.cells).take (m * 2)).drop (1 * 2) = ((l.set 0 y).take m).flatMap W.cells) := Lib.hid (by
    rw [flat_take W.len, flat_drop W.len]
    match l, HL.out, hm with
    | z :: l, _, hm =>
      obtain ⟨k, rfl⟩ : ∃ k, m = k + 1 := ⟨m - 1, by omega⟩
      simp)
  rw [hm1, HL7.out] at H7
  rw [hm1]
  rw [hm1] at hc7
  have H8 : Hid (Sep w w7 [.cells w.heap.size 24 W.zero.cells, .row 24 2 (.slice A7 m c7) m (((l.set 0 y).take m).flatMap W.cells)]) := Lib.hid H7
  have cF := Lib.hid (fun V (hR : Rd V V.heap.size 2 A7 m (((l.set 0 y).take m).flatMap W.cells)) => fdown_any A7 m c7 0 ((l.set 0 y).take m) lf V hR (by rw [List.length_take, List.length_set, HL.out]; omega) (by omega) hm HD.out)
  clear H7 HN HNW HRR HS1 e0 e1 hsl' hs7 hm1 HL7
  go_upto_region 8 with (fail)
  obtain ⟨gb, hgb⟩ : ∃ gb, gb = w.heap.size := ⟨_, rfl⟩
  have HB : Hid (∀ V, Below w.heap.size w V → V.cell? ⟨b, off, none⟩ = some (.int .i64 x.id) ∧ V.cell? ⟨b, off + 1, none⟩ = some (.int .i64 x.wear)) := Lib.hid (fun V hV => ⟨(hV.cell hb).trans (HC.out 0 0 x _ HX.out rfl), (hV.cell hb).trans (HC.out 0 1 x _ HX.out rfl)⟩)
  rw [← hgb] at H8 ⊢
  clear hgb
  refine wp_region_inv0 (fun a0 L a w' => ∃ x2 x4 x33 x34 x35 x36 x37, a = turn a0 [(2, x2), (4, x4), (33, x33), (34, x34), (35, x35), (36, x36), (37, x37)] ∧ (L 0 = true → x33 = .slice A7 m c7) ∧ (L 2 = true → x35 = .slice (some ⟨b, off, none⟩) (m + 1) c) ∧ (L 3 = true → x36 = .pointer (some ⟨b, off, none⟩)) ∧ (L 4 = true → x37 = .agg #[.int .i64 x.id, .int .i64 x.wear]) ∧ (L 5 = true → L 1 = true ∧ x2 = x34) ∧ (L 7 = true → x4 = .int .i64 0) ∧
    (L 1 = true → ∃ A8 c8, x34 = .slice A8 m c8 ∧ m ≤ c8 ∧ Sep w w' [.cells gb 24 (if L 6 = true then x.cells else W.zero.cells), .row 24 2 (.slice A7 m c7) m (((l.set 0 y).take m).flatMap W.cells), .row 24 2 (.slice A8 m c8) m (lf.flatMap W.cells)]) ∧
    Sep w w' [.cells gb 24 (if L 6 = true then x.cells else W.zero.cells), .row 24 2 (.slice A7 m c7) m (((l.set 0 y).take m).flatMap W.cells)]) rfl (by kernel_rfl) ?_ ?_ ?_
  · simp only [turn, List.foldl_cons, List.foldl_nil, List.setIfInBounds_toArray, List.set_cons_succ, List.set_cons_zero]
    exact ⟨_, _, _, _, _, _, _, rfl, fun h => absurd h (by decide), fun h => absurd h (by decide), fun h => absurd h (by decide), fun h => absurd h (by decide), fun h => absurd h (by decide), fun h => absurd h (by decide), fun h => absurd h (by decide), by rw [if_neg (by decide)]; exact H8.out.drew⟩
  · rintro L a w' i o ⟨x2, x4, x33, x34, x35, x36, x37, ha, p0, p2, p3, p4, p5, p7, p1, hS⟩ ho hi he
    simp only [turn, List.foldl_cons, List.foldl_nil, List.setIfInBounds_toArray, List.set_cons_succ, List.set_cons_zero] at ha ⊢
    subst ha
    rcases i with _|_|_|_|_|_|_|_|i
    all_goals cases ho
    all_goals simp [Region.binds] at he
    · refine wpOp_step rfl (fun K hK => ?_)
      go_simp
      exact hK _ _ ⟨_, _, _, _, _, _, _, rfl, fun _ => rfl, (by first | exact p2 | exact fun _ => rfl), (by first | exact p3 | exact fun _ => rfl), (by first | exact p4 | exact fun _ => rfl), by simpa using p5, (by first | exact p7 | exact fun _ => rfl), by simpa using p1, by simpa using hS⟩
    · obtain rfl := p0 (by simp [he])
      have h5 : L 5 = false := not_yet fun h => (p5 h).1.symm.trans hi
      refine wpOp_step rfl (fun K hK => ?_)
      go_simp
      refine (cF.out _ (hS.rd 1 rfl)).mono ?_; rintro en w8 ⟨A8, c8, hc8, rfl, K8⟩
      exact hK _ _ ⟨_, _, _, _, _, _, _, rfl, (by first | exact p0 | exact fun _ => rfl), (by first | exact p2 | exact fun _ => rfl), (by first | exact p3 | exact fun _ => rfl), (by first | exact p4 | exact fun _ => rfl), by simp [h5], (by first | exact p7 | exact fun _ => rfl), fun _ => ⟨A8, c8, rfl, hc8, by simpa using hS.join K8⟩, by simpa using hS.later K8.below⟩
    · refine wpOp_step rfl (fun K hK => ?_)
      go_simp
      exact hK _ _ ⟨_, _, _, _, _, _, _, rfl, (by first | exact p0 | exact fun _ => rfl), fun _ => rfl, (by first | exact p3 | exact fun _ => rfl), (by first | exact p4 | exact fun _ => rfl), by simpa using p5, (by first | exact p7 | exact fun _ => rfl), by simpa using p1, by simpa using hS⟩
    · obtain rfl := p2 (by simp [he])
      refine wpOp_step rfl (fun K hK => ?_)
      go_simp
      exact hK _ _ ⟨_, _, _, _, _, _, _, rfl, (by first | exact p0 | exact fun _ => rfl), (by first | exact p2 | exact fun _ => rfl), fun _ => rfl, (by first | exact p4 | exact fun _ => rfl), by simpa using p5, (by first | exact p7 | exact fun _ => rfl), by simpa using p1, by simpa using hS⟩
    · obtain rfl := p3 (by simp [he])
      obtain ⟨f0, f1⟩ := HB.out w' hS.below
      refine wpOp_step rfl (fun K hK => ?_)
      go_simp
      exact hK _ _ ⟨_, _, _, _, _, _, _, rfl, (by first | exact p0 | exact fun _ => rfl), (by first | exact p2 | exact fun _ => rfl), (by first | exact p3 | exact fun _ => rfl), fun _ => rfl, by simpa using p5, (by first | exact p7 | exact fun _ => rfl), by simpa using p1, by simpa using hS⟩
    · refine wpOp_step rfl (fun K hK => ?_)
      go_simp
      exact hK _ _ ⟨_, _, _, _, _, _, _, rfl, (by first | exact p0 | exact fun _ => rfl), (by first | exact p2 | exact fun _ => rfl), (by first | exact p3 | exact fun _ => rfl), (by first | exact p4 | exact fun _ => rfl), by simp [he], (by first | exact p7 | exact fun _ => rfl), by simpa using p1, by simpa using hS⟩
    · obtain rfl := p4 (by simp [he])
      rw [if_neg (by rw [hi]; decide)] at hS p1
      have f0 := hS.cell 0 rfl (k := 0) rfl
      have f1 := hS.cell 0 rfl (k := 1) rfl
      have u0 := hS.froz 0 rfl (k := 0)
      have u1 := hS.froz 0 rfl (k := 1)
      have KS := (hS.set 0 rfl (k := 0) (.int .i64 x.id)).set 0 rfl (k := 1) (.int .i64 x.wear)
      refine wpOp_step rfl (fun K hK => ?_)
      go_simp
      exact hK _ _ ⟨_, _, _, _, _, _, _, rfl, (by first | exact p0 | exact fun _ => rfl), (by first | exact p2 | exact fun _ => rfl), (by first | exact p3 | exact fun _ => rfl), (by first | exact p4 | exact fun _ => rfl), fun h => by have := p5 (by simpa using h); exact ⟨by simpa using this.1, by first | rfl | exact this.2⟩, (by first | exact p7 | exact fun _ => rfl), fun h => by
        obtain ⟨A8, c8, e8, hc8, S8⟩ := p1 (by simpa using h)
        refine ⟨A8, c8, e8, hc8, ?_⟩
        rw [if_pos (by simp)]
        exact (S8.set 0 rfl (k := 0) (.int .i64 x.id)).set 0 rfl (k := 1) (.int .i64 x.wear), by rw [if_pos (by simp)]; exact KS⟩
    · refine wpOp_step rfl (fun K hK => ?_)
      go_simp
      exact hK _ _ ⟨_, _, _, _, _, _, _, rfl, (by first | exact p0 | exact fun _ => rfl), (by first | exact p2 | exact fun _ => rfl), (by first | exact p3 | exact fun _ => rfl), (by first | exact p4 | exact fun _ => rfl), fun h => by have := p5 (by simpa using h); exact ⟨by simpa using this.1, by first | rfl | exact this.2⟩, fun _ => rfl, by simpa using p1, by simpa using hS⟩
  · rintro L a w' ⟨x2, x4, x33, x34, x35, x36, x37, ha, p0, p2, p3, p4, p5, p7, p1, hS⟩ hall
    obtain rfl := p7 (hall 7 (by decide))
    obtain ⟨A8, c8, rfl, hc8, S8⟩ := p1 (hall 1 (by decide))
    obtain rfl := (p5 (hall 5 (by decide))).2
    rw [if_pos (hall 6 (by decide))] at S8
    simp only [turn, List.foldl_cons, List.foldl_nil, List.setIfInBounds_toArray, List.set_cons_succ, List.set_cons_zero] at ha
    subst ha
    have f0 := S8.cell 0 rfl (k := 0) rfl
    have f1 := S8.cell 0 rfl (k := 1) rfl
    have HS8 := Lib.hid S8
    clear S8 hS p0 p1 p2 p3 p4 p5 p7
    go_wp2
    refine bodyPost_ret (v := .tuple #[.slice A8 m c8, .agg #[.int .i64 x.id, .int .i64 x.wear], .int .i64 0]) (by simp [results, Try.results12, asAddr, Result.andThen, go_sem, f0, f1]) rfl ?_
    unfold PopRet
    rw [HLF.out]
    exact ⟨_, c8, hc8, rfl, HS8.out.pick [2] (by decide) (by simp)⟩
end Hp
end Go.Proofs.Ytakmfjnfkjdbfaa
