/-
  Walks of package quota: do. Conditions: none.
-/
import Derived.Test.YtljdfkejhgaciaaQuotaW
namespace Go.Proofs.Ytljdfkejhgaciaa
open Go.RowKit Go.Shelf
set_option linter.unusedVariables false
namespace Quota

def DoRet (w : World) (g t : Nat) (l' : List Int) (e : Ending) (w' : World) : Prop := ∃ v, e = .returned v ∧ Blk w' g t (l'.flatMap icell) ∧ w.grownBy w' (some g)
theorem grown_below {w w' : World} (h : Below w.heap.size w w') (row : Option Nat) : w.grownBy w' row := ⟨h.os, h.tape, h.output, h.size, fun i hi _ => h.block i hi⟩
theorem set_blk {w : World} {g t k : Nat} {l : List Int} (h : Blk w g t (l.flatMap icell)) (x : Int) : Blk (w.setCell ⟨g, k, none⟩ (.int .i64 x)) g t ((l.set k x).flatMap icell) := by
  rw [← icell_set]
  exact h.set _

set_option maxHeartbeats 1600000 in
theorem do_limit (g T a : Nat) (l : List Int) (t n lim : Int) (w : World) (hg : Blk w g T (l.flatMap icell)) (ha : a < 6) (hl : l[a * 2]? = some lim) :
    Calls Try.prog 38 #[.pointer (some ⟨g, 0, none⟩), (⟨1, a, t, n⟩ : Q).val] w (DoRet w g T (l.set (a * 2) n)) := by
  have HG := Lib.hid hg
  have hlt := hg.lt
  clear hg
  unfold Q.val
  simp only
  obtain ⟨i0, i1⟩ := castlt ha
  have f0 : ∀ z : LaterOf (w.alloc (.cells #[.int .i64 1, .int .i64 (a : Int), .int .i64 t, .int .i64 n] 76)), z.w.cell? ⟨w.heap.size, 0, none⟩ = some (.int .i64 1) := fun z => z.new_ 0 rfl
  have f1 : ∀ z : LaterOf (w.alloc (.cells #[.int .i64 1, .int .i64 (a : Int), .int .i64 t, .int .i64 n] 76)), z.w.cell? ⟨w.heap.size, 1, none⟩ = some (.int .i64 (a : Int)) := fun z => z.new_ 1 rfl
  have f2 : ∀ z : LaterOf (w.alloc (.cells #[.int .i64 1, .int .i64 (a : Int), .int .i64 t, .int .i64 n] 76)), z.w.cell? ⟨w.heap.size, 2, none⟩ = some (.int .i64 t) := fun z => z.new_ 2 rfl
  have f3 : ∀ z : LaterOf (w.alloc (.cells #[.int .i64 1, .int .i64 (a : Int), .int .i64 t, .int .i64 n] 76)), z.w.cell? ⟨w.heap.size, 3, none⟩ = some (.int .i64 n) := fun z => z.new_ 3 rfl
  have HX0 : Below w.heap.size w (w.alloc (.cells #[.int .i64 1, .int .i64 (a : Int), .int .i64 t, .int .i64 n] 76)) := (Below.refl _ _).alloc (Nat.le_refl _) _
  have HGA := Lib.hid (HG.out.alloc (.cells #[.int .i64 1, .int .i64 (a : Int), .int .i64 t, .int .i64 n] 76))
  go_enter Try.func38, Try.ntmps38
  go_wp2
  (refine wp_region_tail 8 (by kernel_rfl) (by kernel_rfl) ?_; simp only [List.take_succ_cons, List.take_zero, List.drop_succ_cons, List.drop_zero]; repeat (go_big_quiet_step (fail)))
  refine wpQuiet_nil ?_; intro xw hw'; obtain ⟨xq, hw''⟩ := hw'; obtain ⟨xw0, xh⟩ := xq; change xw = xw0 at hw''; subst hw''
  have HB := Lib.hid (HGA.out.later xh)
  have u0 := HB.out.froz (k := a * 2)
  have u1 := HB.out.cell (hcell hl)
  go_wp2
  go_end0
  exact ⟨_, rfl, set_blk HB.out n, (grown_below (HX0.trans (xh.mono HX0.size)) _).trans (grown_set _ _ _ _)⟩

set_option maxHeartbeats 1600000 in
theorem do_charge (g T a : Nat) (l : List Int) (t n us : Int) (w : World) (hg : Blk w g T (l.flatMap icell)) (ha : a < 6) (hu : l[a * 2 + 1]? = some us) (h4 : 0 ≤ n) (h5 : n ≤ 1099511627776) (hu0 : 0 ≤ us) (hu1 : us ≤ 1099511627776) :
    Calls Try.prog 38 #[.pointer (some ⟨g, 0, none⟩), (⟨2, a, t, n⟩ : Q).val] w (DoRet w g T (l.set (a * 2 + 1) (us + n))) := by
  have HG := Lib.hid hg
  have hlt := hg.lt
  clear hg
  unfold Q.val
  simp only
  obtain ⟨i0, i1⟩ := castlt ha
  have f0 : ∀ z : LaterOf (w.alloc (.cells #[.int .i64 2, .int .i64 (a : Int), .int .i64 t, .int .i64 n] 76)), z.w.cell? ⟨w.heap.size, 0, none⟩ = some (.int .i64 2) := fun z => z.new_ 0 rfl
  have f1 : ∀ z : LaterOf (w.alloc (.cells #[.int .i64 2, .int .i64 (a : Int), .int .i64 t, .int .i64 n] 76)), z.w.cell? ⟨w.heap.size, 1, none⟩ = some (.int .i64 (a : Int)) := fun z => z.new_ 1 rfl
  have f2 : ∀ z : LaterOf (w.alloc (.cells #[.int .i64 2, .int .i64 (a : Int), .int .i64 t, .int .i64 n] 76)), z.w.cell? ⟨w.heap.size, 2, none⟩ = some (.int .i64 t) := fun z => z.new_ 2 rfl
  have f3 : ∀ z : LaterOf (w.alloc (.cells #[.int .i64 2, .int .i64 (a : Int), .int .i64 t, .int .i64 n] 76)), z.w.cell? ⟨w.heap.size, 3, none⟩ = some (.int .i64 n) := fun z => z.new_ 3 rfl
  have HX0 : Below w.heap.size w (w.alloc (.cells #[.int .i64 2, .int .i64 (a : Int), .int .i64 t, .int .i64 n] 76)) := (Below.refl _ _).alloc (Nat.le_refl _) _
  have HGA := Lib.hid (HG.out.alloc (.cells #[.int .i64 2, .int .i64 (a : Int), .int .i64 t, .int .i64 n] 76))
  have d1 : ∀ z : LaterOf (w.alloc (.cells #[.int .i64 2, .int .i64 (a : Int), .int .i64 t, .int .i64 n] 76)), z.w.cell? ⟨g, a * 2 + 1, none⟩ = some (.int .i64 us) := fun z => z.old (HG.out.cell (hcell hu))
  go_enter Try.func38, Try.ntmps38
  go_wp2
  (refine wp_region_tail 13 (by kernel_rfl) (by kernel_rfl) ?_; simp only [List.take_succ_cons, List.take_zero, List.drop_succ_cons, List.drop_zero]; repeat (go_big_quiet_step (fail)))
  refine wpQuiet_nil ?_; intro xw hw'; obtain ⟨xq, hw''⟩ := hw'; obtain ⟨xw0, xh⟩ := xq; change xw = xw0 at hw''; subst hw''
  have HB := Lib.hid (HGA.out.later xh)
  have u0 := HB.out.froz (k := a * 2 + 1)
  have u1 := HB.out.cell (hcell hu)
  go_wp2
  go_end0
  exact ⟨_, rfl, set_blk HB.out (us + n), (grown_below (HX0.trans (xh.mono HX0.size)) _).trans (grown_set _ _ _ _)⟩

set_option maxHeartbeats 1600000 in
theorem do_free (g T a : Nat) (l : List Int) (t n us : Int) (w : World) (hg : Blk w g T (l.flatMap icell)) (ha : a < 6) (hu : l[a * 2 + 1]? = some us) (h4 : 0 ≤ n) (h5 : n ≤ 1099511627776) (hu0 : 0 ≤ us) (hu1 : us ≤ 1099511627776) :
    Calls Try.prog 38 #[.pointer (some ⟨g, 0, none⟩), (⟨3, a, t, n⟩ : Q).val] w (DoRet w g T (l.set (a * 2 + 1) (us - n))) := by
  have HG := Lib.hid hg
  have hlt := hg.lt
  clear hg
  unfold Q.val
  simp only
  obtain ⟨i0, i1⟩ := castlt ha
  have f0 : ∀ z : LaterOf (w.alloc (.cells #[.int .i64 3, .int .i64 (a : Int), .int .i64 t, .int .i64 n] 76)), z.w.cell? ⟨w.heap.size, 0, none⟩ = some (.int .i64 3) := fun z => z.new_ 0 rfl
  have f1 : ∀ z : LaterOf (w.alloc (.cells #[.int .i64 3, .int .i64 (a : Int), .int .i64 t, .int .i64 n] 76)), z.w.cell? ⟨w.heap.size, 1, none⟩ = some (.int .i64 (a : Int)) := fun z => z.new_ 1 rfl
  have f2 : ∀ z : LaterOf (w.alloc (.cells #[.int .i64 3, .int .i64 (a : Int), .int .i64 t, .int .i64 n] 76)), z.w.cell? ⟨w.heap.size, 2, none⟩ = some (.int .i64 t) := fun z => z.new_ 2 rfl
  have f3 : ∀ z : LaterOf (w.alloc (.cells #[.int .i64 3, .int .i64 (a : Int), .int .i64 t, .int .i64 n] 76)), z.w.cell? ⟨w.heap.size, 3, none⟩ = some (.int .i64 n) := fun z => z.new_ 3 rfl
  have HX0 : Below w.heap.size w (w.alloc (.cells #[.int .i64 3, .int .i64 (a : Int), .int .i64 t, .int .i64 n] 76)) := (Below.refl _ _).alloc (Nat.le_refl _) _
  have HGA := Lib.hid (HG.out.alloc (.cells #[.int .i64 3, .int .i64 (a : Int), .int .i64 t, .int .i64 n] 76))
  have d1 : ∀ z : LaterOf (w.alloc (.cells #[.int .i64 3, .int .i64 (a : Int), .int .i64 t, .int .i64 n] 76)), z.w.cell? ⟨g, a * 2 + 1, none⟩ = some (.int .i64 us) := fun z => z.old (HG.out.cell (hcell hu))
  go_enter Try.func38, Try.ntmps38
  go_wp2
  (refine wp_region_tail 13 (by kernel_rfl) (by kernel_rfl) ?_; simp only [List.take_succ_cons, List.take_zero, List.drop_succ_cons, List.drop_zero]; repeat (go_big_quiet_step (fail)))
  refine wpQuiet_nil ?_; intro xw hw'; obtain ⟨xq, hw''⟩ := hw'; obtain ⟨xw0, xh⟩ := xq; change xw = xw0 at hw''; subst hw''
  have HB := Lib.hid (HGA.out.later xh)
  have u0 := HB.out.froz (k := a * 2 + 1)
  have u1 := HB.out.cell (hcell hu)
  go_wp2
  go_end0
  exact ⟨_, rfl, set_blk HB.out (us - n), (grown_below (HX0.trans (xh.mono HX0.size)) _).trans (grown_set _ _ _ _)⟩

set_option maxHeartbeats 1600000 in
theorem do_move (g T a b : Nat) (l : List Int) (n us us2 : Int) (w : World) (hg : Blk w g T (l.flatMap icell)) (ha : a < 6) (hb : b < 6) (hu : l[a * 2 + 1]? = some us) (h4 : 0 ≤ n) (h5 : n ≤ 1099511627776) (hu0 : 0 ≤ us) (hu1 : us ≤ 1099511627776)
    (hu2 : (l.set (a * 2 + 1) (us - n))[b * 2 + 1]? = some us2) (hv0 : -1099511627776 ≤ us2) (hv1 : us2 ≤ 1099511627776) :
    Calls Try.prog 38 #[.pointer (some ⟨g, 0, none⟩), (⟨4, a, b, n⟩ : Q).val] w (DoRet w g T ((l.set (a * 2 + 1) (us - n)).set (b * 2 + 1) (us2 + n))) := by
  have HG := Lib.hid hg
  have hlt := hg.lt
  have HU2 := Lib.hid hu2
  clear hg hu2
  unfold Q.val
  simp only
  obtain ⟨i0, i1⟩ := castlt ha
  obtain ⟨j0, j1⟩ := castlt hb
  have f0 : ∀ z : LaterOf (w.alloc (.cells #[.int .i64 4, .int .i64 (a : Int), .int .i64 (b : Int), .int .i64 n] 76)), z.w.cell? ⟨w.heap.size, 0, none⟩ = some (.int .i64 4) := fun z => z.new_ 0 rfl
  have f1 : ∀ z : LaterOf (w.alloc (.cells #[.int .i64 4, .int .i64 (a : Int), .int .i64 (b : Int), .int .i64 n] 76)), z.w.cell? ⟨w.heap.size, 1, none⟩ = some (.int .i64 (a : Int)) := fun z => z.new_ 1 rfl
  have f2 : ∀ z : LaterOf (w.alloc (.cells #[.int .i64 4, .int .i64 (a : Int), .int .i64 (b : Int), .int .i64 n] 76)), z.w.cell? ⟨w.heap.size, 2, none⟩ = some (.int .i64 (b : Int)) := fun z => z.new_ 2 rfl
  have f3 : ∀ z : LaterOf (w.alloc (.cells #[.int .i64 4, .int .i64 (a : Int), .int .i64 (b : Int), .int .i64 n] 76)), z.w.cell? ⟨w.heap.size, 3, none⟩ = some (.int .i64 n) := fun z => z.new_ 3 rfl
  have HX0 : Below w.heap.size w (w.alloc (.cells #[.int .i64 4, .int .i64 (a : Int), .int .i64 (b : Int), .int .i64 n] 76)) := (Below.refl _ _).alloc (Nat.le_refl _) _
  have HGA := Lib.hid (HG.out.alloc (.cells #[.int .i64 4, .int .i64 (a : Int), .int .i64 (b : Int), .int .i64 n] 76))
  have d1 : ∀ z : LaterOf (w.alloc (.cells #[.int .i64 4, .int .i64 (a : Int), .int .i64 (b : Int), .int .i64 n] 76)), z.w.cell? ⟨g, a * 2 + 1, none⟩ = some (.int .i64 us) := fun z => z.old (HG.out.cell (hcell hu))
  go_enter Try.func38, Try.ntmps38
  go_wp2
  (refine wp_region_tail 13 (by kernel_rfl) (by kernel_rfl) ?_; simp only [List.take_succ_cons, List.take_zero, List.drop_succ_cons, List.drop_zero]; repeat (go_big_quiet_step (fail)))
  refine wpQuiet_nil ?_; intro xw hw'; obtain ⟨xq, hw''⟩ := hw'; obtain ⟨xw0, xh⟩ := xq; change xw = xw0 at hw''; subst hw''
  have HB := Lib.hid (HGA.out.later xh)
  have u0 := HB.out.froz (k := a * 2 + 1)
  have u1 := HB.out.cell (hcell hu)
  have HB2 := Lib.hid (set_blk (k := a * 2 + 1) HB.out (us - n))
  have hz1 := xh.size
  have p2 : (xw.setCell ⟨g, a * 2 + 1, none⟩ (.int .i64 (us - n))).cell? ⟨w.heap.size, 2, none⟩ = some (.int .i64 (b : Int)) := by refine (World.cell?_setCell_other _ _ _ _ ?_).trans (f2 ⟨xw, xh⟩); intro e; injection e with e1; omega
  have p3 : (xw.setCell ⟨g, a * 2 + 1, none⟩ (.int .i64 (us - n))).cell? ⟨w.heap.size, 3, none⟩ = some (.int .i64 n) := by refine (World.cell?_setCell_other _ _ _ _ ?_).trans (f3 ⟨xw, xh⟩); intro e; injection e with e1; omega
  have p1 : (xw.setCell ⟨g, a * 2 + 1, none⟩ (.int .i64 (us - n))).cell? ⟨g, b * 2 + 1, none⟩ = some (.int .i64 us2) := HB2.out.cell (hcell HU2.out)
  have g2 : ∀ z : LaterOf (xw.setCell ⟨g, a * 2 + 1, none⟩ (.int .i64 (us - n))), z.w.cell? ⟨w.heap.size, 2, none⟩ = some (.int .i64 (b : Int)) := fun z => z.cell p2
  have g3 : ∀ z : LaterOf (xw.setCell ⟨g, a * 2 + 1, none⟩ (.int .i64 (us - n))), z.w.cell? ⟨w.heap.size, 3, none⟩ = some (.int .i64 n) := fun z => z.cell p3
  have g1 : ∀ z : LaterOf (xw.setCell ⟨g, a * 2 + 1, none⟩ (.int .i64 (us - n))), z.w.cell? ⟨g, b * 2 + 1, none⟩ = some (.int .i64 us2) := fun z => z.cell p1
  have HXX : w.grownBy (xw.setCell ⟨g, a * 2 + 1, none⟩ (.int .i64 (us - n))) (some g) := (grown_below (HX0.trans (xh.mono HX0.size)) _).trans (grown_set _ _ _ _)
  clear f0 f1 f2 f3 p1 p2 p3 d1
  go_upto_region 3 with (fail)
  clear u0 u1
  generalize xw.setCell ⟨g, a * 2 + 1, none⟩ (.int .i64 (us - n)) = yw at g1 g2 g3 HB2 HXX ⊢
  (refine wp_region_tail 13 (by kernel_rfl) (by kernel_rfl) ?_; simp only [List.take_succ_cons, List.take_zero, List.drop_succ_cons, List.drop_zero]; repeat (go_big_quiet_step (fail)))
  refine wpQuiet_nil ?_; intro zw hw'; obtain ⟨xq, hw''⟩ := hw'; obtain ⟨xw0, zh⟩ := xq; change zw = xw0 at hw''; subst hw''
  have HC := Lib.hid (HB2.out.later zh)
  have u0 := HC.out.froz (k := b * 2 + 1)
  have u1 := HC.out.cell (hcell HU2.out)
  go_wp2
  go_end0
  exact ⟨_, rfl, set_blk HC.out (us2 + n), (HXX.trans (grown_below zh _)).trans (grown_set _ _ _ _)⟩

set_option maxHeartbeats 2000000 in
theorem do_any (g t : Nat) (l l' : List Int) (q : Q) (e : Int) (w : World) (hg : Blk w g t (l.flatMap icell)) (hW : Way l q e l') (he : e = 0) :
    Calls Try.prog 38 #[.pointer (some ⟨g, 0, none⟩), q.val] w (DoRet w g t l') := by
  rcases hW with ⟨h⟩ | ⟨h0, h⟩ | ⟨h0, h1, h⟩ | ⟨h0, h1, h2, h⟩ | ⟨h2, h3, h⟩ | ⟨h2, h3, h4, h⟩ | ⟨h0, h1, h2, h3, h⟩ | ⟨h0, h1, h2, h3, h4, h⟩ | ⟨h2, h3, h5, h6, h⟩ | ⟨h2, h3, h5, h6, h4, h⟩ | ⟨ha, h4, h5, hl⟩ | ⟨ha, h4, h5, hu, hl, hu0, hu1, hl0, hl1, h, h'⟩ | ⟨ha, h4, h5, hu, hl, hu0, hu1, hl0, hl1, h, h'⟩ | ⟨ha, h4, h5, hu, hu0, hu1, h⟩ | ⟨ha, h4, h5, hu, hu0, hu1, h⟩ | ⟨ha, hb, h4, h5, hu, hu0, hu1, h⟩ | ⟨ha, hb, h4, h5, hu, hu0, hu1, h, hne, hu', hl, hu0', hu1', hl0, hl1, hf, hf'⟩ | ⟨ha, hb, h4, h5, hu, hu0, hu1, h, hne, hne', hu', hl, hu0', hu1', hl0, hl1, hf, hf'⟩ | ⟨ha, h4, h5, hu, hu0, hu1, h⟩
  all_goals first
    | exact absurd he (by decide)
    | with_reducible exact do_limit _ _ _ _ _ _ _ _ hg ha hl
    | with_reducible exact do_charge _ _ _ _ _ _ _ _ hg ha hu h4 h5 hu0 hu1
    | with_reducible exact do_free _ _ _ _ _ _ _ _ hg ha hu h4 h5 hu0 hu1
    | with_reducible exact do_move _ _ _ _ _ _ _ _ _ hg ha hb hu h4 h5 hu0 hu1 (by rw [List.getElem?_set_ne (by omega)]; exact hu') (by omega) (by omega)
    | with_reducible exact do_move _ _ _ _ _ _ _ _ _ hg ha ha hu h4 h5 hu0 hu1 (by rw [List.getElem?_set_self (List.getElem?_eq_some_iff.1 hu).1]) (by omega) (by omega)
end Quota
end Go.Proofs.Ytljdfkejhgaciaa
