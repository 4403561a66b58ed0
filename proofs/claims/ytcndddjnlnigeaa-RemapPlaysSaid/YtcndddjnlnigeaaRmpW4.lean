/-
  Walk of remap.Play's step, where it stores. Conditions: none.
-/
import Derived.Test.YtcndddjnlnigeaaRmpW3
import Derived.RegionTactic
import Derived.BigRegion
namespace Go.Proofs.Ytcndddjnlnigeaa
open Go.RowKit
set_option linter.unusedVariables false
namespace Rmp

set_option maxHeartbeats 1600000 in
theorem step_fresh (gb gp ga gn gx pages : Nat) (l : List Int) (w : World) (hC : Caps w gb gp ga gn gx pages l) (hpg : pages ≤ 4096) (m : Nat) (hm : m < 16) (hok : Ok pages l) (hl : l.length < pages) (h : firstP (m : Int) l 0 = -1) : Calls Try.prog 38 #[.agg #[.int .i64 (1), .int .i64 ((m : Int))], .pointer (some ⟨gb, 0, none⟩), .pointer (some ⟨gp, 0, none⟩), .pointer (some ⟨ga, 0, none⟩), .pointer (some ⟨gn, 0, none⟩)] w (StepRet w gb gp ga gn gx pages (l ++ [(m : Int)]) (0)) := by
  have ca := hC.a.cell (hcell (atL_at (l := l) hm))
  rw [h] at ca
  have HH := Lib.hid h
  have HM : Hid (∀ x ∈ l, x ≠ (m : Int)) := Lib.hid (by
    rcases firstP_cases (m : Int) l 0 with ⟨_, h2⟩ | ⟨p, h1, _⟩
    · exact h2
    · rw [h] at h1; omega)
  have HC := Lib.hid hC
  have cb := hC.b.cell (k := 0) rfl
  have cp := hC.p.cell (k := 0) rfl
  have cn := hC.n.cell (k := 0) rfl
  have lb := hC.b.lt
  have lp := hC.p.lt
  have la := hC.a.lt
  have ln := hC.n.lt
  have lx := hC.x.lt
  obtain ⟨n1, n2, n3, n4, n5, n6, n7, n8, n9, n10⟩ := hC.ne
  clear hC
  have ht : ((l.length : Int) == (pages : Int)) = false := by simp; omega
  have i0 : (0 : Int) ≤ (m : Int) := by omega
  have i1 : ¬ (16 : Int) ≤ (m : Int) := by omega
  have i2 : (m : Int) < 16 := by omega
  have fa := HC.out.a.froz (k := m)
  have FO1 : Hid (Blk ((w.setCell ⟨ga, m, none⟩ (.int .i64 (-1))).alloc (.cells #[.int .i64 1, .int .i64 (m : Int)] 89)) w.heap.size 89 [.int .i64 1, .int .i64 (m : Int)]) := Lib.hid (by
    have := Blk.new (w.setCell ⟨ga, m, none⟩ (.int .i64 (-1))) 89 [.int .i64 1, .int .i64 (m : Int)]
    rwa [show (w.setCell ⟨ga, m, none⟩ (.int .i64 (-1))).heap.size = w.heap.size by simp] at this)
  have HA1 : Hid (Blk ((w.setCell ⟨ga, m, none⟩ (.int .i64 (-1))).alloc (.cells #[.int .i64 1, .int .i64 (m : Int)] 89)) ga 34 ((atL l).flatMap icell)) := Lib.hid (by
    have := (set_blk (k := m) HC.out.a (-1)).alloc (.cells #[.int .i64 1, .int .i64 (m : Int)] 89)
    rwa [atL_same hm HH.out] at this)
  have HBb := Lib.hid ((HC.out.b.other (g' := ga) (k := m) n2 (.int .i64 (-1))).alloc (.cells #[.int .i64 1, .int .i64 (m : Int)] 89))
  have HPp := Lib.hid ((HC.out.p.other (g' := ga) (k := m) n5 (.int .i64 (-1))).alloc (.cells #[.int .i64 1, .int .i64 (m : Int)] 89))
  have HNn := Lib.hid ((HC.out.n.other (g' := ga) (k := m) (Ne.symm n8) (.int .i64 (-1))).alloc (.cells #[.int .i64 1, .int .i64 (m : Int)] 89))
  have HXx := Lib.hid ((HC.out.x.other (g' := ga) (k := m) (Ne.symm n9) (.int .i64 (-1))).alloc (.cells #[.int .i64 1, .int .i64 (m : Int)] 89))
  have T1 : Turns (Three gb ga gx) w ((w.setCell ⟨ga, m, none⟩ (.int .i64 (-1))).alloc (.cells #[.int .i64 1, .int .i64 (m : Int)] 89)) := ((Turns.refl _ w).set (.inr (.inl rfl)) _).trans (Turns.later ((Below.refl _ _).alloc (Nat.le_refl _) _))
  clear h HH
  go_enter Try.func38, Try.ntmps38
  go_upto_region 13 with (fail)
  generalize ((w.setCell ⟨ga, m, none⟩ (.int .i64 (-1))).alloc (.cells #[.int .i64 1, .int .i64 (m : Int)] 89)) = w1 at FO1 HA1 HBb HPp HNn HXx T1 ⊢
  have hl0 : (l).length = l.length := by simp
  have hlp : (l).length < pages := by omega
  have e0 : w1.cell? ⟨w.heap.size, 1, none⟩ = some (.int .i64 (m : Int)) := FO1.out.cell rfl
  have e1 : w1.cell? ⟨gb, 0, none⟩ = some (.int .i64 (l.length : Int)) := HBb.out.cell rfl
  have e2 : w1.cell? ⟨gn, 0, none⟩ = some (.slice (some ⟨gx, 0, none⟩) pages pages) := HNn.out.cell rfl
  have j0 : (0 : Int) ≤ (l.length : Int) := by omega
  have j1 : (l.length : Int) < (pages : Int) := by omega
  have j2 : (l.length : Int) ≤ 4096 := by omega
  obtain ⟨yx, hyx⟩ := numL_at (l := l) hlp (Nat.le_of_lt hlp)
  rw [hl0] at hyx
  have u0 := HA1.out.froz (k := m)
  have u1 := HA1.out.cell (hcell (atL_at (l := l) hm))
  have u2 := HXx.out.froz (k := l.length)
  have u3 := HXx.out.cell (hcell hyx)
  have lw := FO1.out.lt
  have d1 : w.heap.size ≠ ga := by omega
  have d2 : w.heap.size ≠ gx := by omega
  have HL0 := Lib.hid hl0
  clear cb cp cn ca fa hyx
  go_region
  have HA3 : Hid (Blk ((w1.setCell ⟨ga, m, none⟩ (.int .i64 (l.length : Int))).setCell ⟨gx, l.length, none⟩ (.int .i64 (m : Int))).drew ga 34 ((atL (l ++ [(m : Int)])).flatMap icell)) := Lib.hid (by
    have := ((set_blk (k := m) HA1.out (l.length : Int)).other (g' := gx) (k := l.length) n9 (.int .i64 (m : Int))).drew
    rw [← HL0.out, atL_snoc hm HM.out, HL0.out] at this
    exact this)
  have HX3 : Hid (Blk ((w1.setCell ⟨ga, m, none⟩ (.int .i64 (l.length : Int))).setCell ⟨gx, l.length, none⟩ (.int .i64 (m : Int))).drew gx 3 ((numL pages (l ++ [(m : Int)])).flatMap icell)) := Lib.hid (by
    have := (set_blk (k := l.length) (HXx.out.other (g' := ga) (k := m) (Ne.symm n9) (.int .i64 (l.length : Int))) (m : Int)).drew
    rw [← HL0.out, numL_snoc hlp, HL0.out] at this
    exact this)
  have HB3 := Lib.hid ((HBb.out.other (g' := ga) (k := m) n2 (.int .i64 (l.length : Int))).other (g' := gx) (k := l.length) n4 (.int .i64 (m : Int))).drew
  have HP3 := Lib.hid ((HPp.out.other (g' := ga) (k := m) n5 (.int .i64 (l.length : Int))).other (g' := gx) (k := l.length) n7 (.int .i64 (m : Int))).drew
  have HN3 := Lib.hid ((HNn.out.other (g' := ga) (k := m) (Ne.symm n8) (.int .i64 (l.length : Int))).other (g' := gx) (k := l.length) n10 (.int .i64 (m : Int))).drew
  have T3 := ((T1.set (g := ga) (k := m) (.inr (.inl rfl)) (.int .i64 (l.length : Int))).set (g := gx) (k := l.length) (.inr (.inr rfl)) (.int .i64 (m : Int))).trans (Turns.later (S := Three gb ga gx) (Below.refl _ _).drew)
  clear u0 u1 u2 u3 e0 e1 e2 HA1 HXx HBb HPp HNn FO1 T1
  generalize ((w1.setCell ⟨ga, m, none⟩ (.int .i64 (l.length : Int))).setCell ⟨gx, l.length, none⟩ (.int .i64 (m : Int))).drew = w3 at HA3 HX3 HB3 HP3 HN3 T3 ⊢
  have v0 := HB3.out.froz (k := 0)
  have v1 : w3.cell? ⟨gb, 0, none⟩ = some (.int .i64 (l.length : Int)) := HB3.out.cell rfl
  go_wp2
  go_ret
  refine ⟨rfl, ⟨?_, HP3.out.other (g' := gb) (k := 0) (Ne.symm n1) _, HA3.out.other (g' := gb) (k := 0) (Ne.symm n2) _, HN3.out.other (g' := gb) (k := 0) (Ne.symm n3) _, HX3.out.other (g' := gb) (k := 0) (Ne.symm n4) _, HC.out.ne⟩, T3.set (.inl rfl) _⟩
  have := HB3.out.set (k := 0) (.int .i64 ((l.length : Int) + 1))
  rw [show ((l ++ [(m : Int)]).length : Int) = (l.length : Int) + 1 by simp]
  exact this

set_option maxHeartbeats 3200000 in
theorem step_trim (gb gp ga gn gx pages : Nat) (l : List Int) (w : World) (hC : Caps w gb gp ga gn gx pages l) (m p : Nat) (hm : m < 16) (hok : Ok pages l) (h : firstP (m : Int) l 0 = (p : Int)) (hp : l[p]? = some (m : Int)) : Calls Try.prog 38 #[.agg #[.int .i64 (2), .int .i64 ((m : Int))], .pointer (some ⟨gb, 0, none⟩), .pointer (some ⟨gp, 0, none⟩), .pointer (some ⟨ga, 0, none⟩), .pointer (some ⟨gn, 0, none⟩)] w (StepRet w gb gp ga gn gx pages (l.set p (-1)) (0)) := by
  have ca := hC.a.cell (hcell (atL_at (l := l) hm))
  rw [h] at ca
  have HH := Lib.hid h
  have HM : Hid (∀ x ∈ l.set p (-1), x ≠ (m : Int)) := Lib.hid (hok.gone (by omega) hp)
  have HAt : Hid ((atL l).set m (-1) = atL (l.set p (-1))) := Lib.hid (atL_set hok hm hp)
  have hpl : p < l.length := (List.getElem?_eq_some_iff.1 hp).1
  have hpp : p < pages := Nat.lt_of_lt_of_le hpl hok.len
  have HNm : Hid ((numL pages l).set p (-1) = numL pages (l.set p (-1))) := Lib.hid (numL_set hpl)
  obtain ⟨yx, hyx⟩ := numL_at (l := l) hpp hok.len
  have HC := Lib.hid hC
  have cb := hC.b.cell (k := 0) rfl
  have cp := hC.p.cell (k := 0) rfl
  have cn := hC.n.cell (k := 0) rfl
  have lb := hC.b.lt
  have lp := hC.p.lt
  have la := hC.a.lt
  have ln := hC.n.lt
  have lx := hC.x.lt
  obtain ⟨n1, n2, n3, n4, n5, n6, n7, n8, n9, n10⟩ := hC.ne
  clear hC
  have i0 : (0 : Int) ≤ (m : Int) := by omega
  have i1 : ¬ (16 : Int) ≤ (m : Int) := by omega
  have i2 : (m : Int) < 16 := by omega
  have i3 : (0 : Int) ≤ (p : Int) := by omega
  have i4 : (p : Int) < (pages : Int) := by omega
  have t1 : ((p : Int) != -1) = true := by simp <;> omega
  have t2 : ((p : Int) == -1) = false := by simp <;> omega
  have HX := Lib.hid hyx
  clear h hp hyx
  have HB0 : Below w.heap.size w (w.alloc (.cells #[.int .i64 2, .int .i64 (m : Int)] 89)) := (Below.refl _ _).alloc (Nat.le_refl _) _
  have C0 := Lib.hid (HC.out.later HB0)
  have FO := Lib.hid (Blk.new w 89 [.int .i64 2, .int .i64 (m : Int)])
  have e0 : ∀ z : LaterOf (w.alloc (.cells #[.int .i64 2, .int .i64 (m : Int)] 89)), z.w.cell? ⟨w.heap.size, 1, none⟩ = some (.int .i64 (m : Int)) := fun z => z.new_ 1 rfl
  have e1 : ∀ z : LaterOf (w.alloc (.cells #[.int .i64 2, .int .i64 (m : Int)] 89)), z.w.cell? ⟨ga, m, none⟩ = some (.int .i64 (p : Int)) := fun z => z.old ca
  have e2 : ∀ z : LaterOf (w.alloc (.cells #[.int .i64 2, .int .i64 (m : Int)] 89)), z.w.cell? ⟨gn, 0, none⟩ = some (.slice (some ⟨gx, 0, none⟩) pages pages) := fun z => z.old cn
  go_enter Try.func38, Try.ntmps38
  go_upto_region 10 with (fail)
  clear cb cp cn ca
  (refine wp_region_tail 6 (by kernel_rfl) (by kernel_rfl) ?_; simp only [List.take_succ_cons, List.take_zero, List.drop_succ_cons, List.drop_zero]; repeat (go_big_quiet_step (fail)))
  refine wpQuiet_nil ?_; intro xw hw'; obtain ⟨xq, hw''⟩ := hw'; obtain ⟨xw0, xh⟩ := xq; change xw = xw0 at hw''; subst hw''
  have C1 := Lib.hid (C0.out.later xh)
  have FO1 := Lib.hid (FO.out.later xh)
  have T0 := Turns.later (S := Three gb ga gx) (HB0.trans (xh.mono HB0.size))
  have u2 := C1.out.x.froz (k := p)
  have u3 := C1.out.x.cell (hcell HX.out)
  clear e0 e1 e2 C0 FO HB0 xh
  go_upto_region 11 with (fail)
  have HX1 := Lib.hid (set_blk (k := p) C1.out.x (-1))
  have HA1 := Lib.hid (C1.out.a.other (g' := gx) (k := p) n9 (.int .i64 (-1)))
  have HB1 := Lib.hid (C1.out.b.other (g' := gx) (k := p) n4 (.int .i64 (-1)))
  have HP1 := Lib.hid (C1.out.p.other (g' := gx) (k := p) n7 (.int .i64 (-1)))
  have HN1 := Lib.hid (C1.out.n.other (g' := gx) (k := p) n10 (.int .i64 (-1)))
  have FO2 := Lib.hid (FO1.out.other (g' := gx) (k := p) (by omega) (.int .i64 (-1)))
  have T1 := T0.set (g := gx) (k := p) (.inr (.inr rfl)) (.int .i64 (-1))
  rw [HNm.out] at HX1
  clear u2 u3 C1 FO1 T0
  generalize xw.setCell ⟨gx, p, none⟩ (.int .i64 (-1)) = w2 at HX1 HA1 HB1 HP1 HN1 FO2 T1 ⊢
  have u0 := HA1.out.froz (k := m)
  have u1 := HA1.out.cell (hcell (atL_at (l := l) hm))
  rw [HH.out] at u1
  have q0 : w2.cell? ⟨w.heap.size, 0, none⟩ = some (.int .i64 2) := FO2.out.cell rfl
  have q1 : w2.cell? ⟨w.heap.size, 1, none⟩ = some (.int .i64 (m : Int)) := FO2.out.cell rfl
  have HA2 : Hid (Blk (w2.setCell ⟨ga, m, none⟩ (.int .i64 (-1))) ga 34 ((atL (l.set p (-1))).flatMap icell)) := Lib.hid (by
    have := set_blk (k := m) HA1.out (-1)
    rwa [HAt.out] at this)
  have HBb := Lib.hid (HB1.out.other (g' := ga) (k := m) n2 (.int .i64 (-1)))
  have HPp := Lib.hid (HP1.out.other (g' := ga) (k := m) n5 (.int .i64 (-1)))
  have HNn := Lib.hid (HN1.out.other (g' := ga) (k := m) (Ne.symm n8) (.int .i64 (-1)))
  have HXx := Lib.hid (HX1.out.other (g' := ga) (k := m) (Ne.symm n9) (.int .i64 (-1)))
  have FO3 := Lib.hid (FO2.out.other (g' := ga) (k := m) (by omega) (.int .i64 (-1)))
  have T2 := T1.set (g := ga) (k := m) (.inr (.inl rfl)) (.int .i64 (-1))
  clear HX1 HA1 HB1 HP1 HN1 FO2 T1
  go_wp2
  go_ret
  exact ⟨rfl, ⟨by have := HBb.out; rwa [show (l.set p (-1)).length = l.length by simp], HPp.out, HA2.out, HNn.out, HXx.out, HC.out.ne⟩, T2⟩

set_option maxHeartbeats 3200000 in
theorem step_over (gb gp ga gn gx pages : Nat) (l : List Int) (w : World) (hC : Caps w gb gp ga gn gx pages l) (hpg : pages ≤ 4096) (m p : Nat) (hm : m < 16) (hok : Ok pages l) (hl : l.length < pages) (h : firstP (m : Int) l 0 = (p : Int)) (hp : l[p]? = some (m : Int)) : Calls Try.prog 38 #[.agg #[.int .i64 (1), .int .i64 ((m : Int))], .pointer (some ⟨gb, 0, none⟩), .pointer (some ⟨gp, 0, none⟩), .pointer (some ⟨ga, 0, none⟩), .pointer (some ⟨gn, 0, none⟩)] w (StepRet w gb gp ga gn gx pages (l.set p (-1) ++ [(m : Int)]) (0)) := by
  have ht : ((l.length : Int) == (pages : Int)) = false := by simp; omega
  have ca := hC.a.cell (hcell (atL_at (l := l) hm))
  rw [h] at ca
  have HH := Lib.hid h
  have HM : Hid (∀ x ∈ l.set p (-1), x ≠ (m : Int)) := Lib.hid (hok.gone (by omega) hp)
  have HAt : Hid ((atL l).set m (-1) = atL (l.set p (-1))) := Lib.hid (atL_set hok hm hp)
  have hpl : p < l.length := (List.getElem?_eq_some_iff.1 hp).1
  have hpp : p < pages := Nat.lt_of_lt_of_le hpl hok.len
  have HNm : Hid ((numL pages l).set p (-1) = numL pages (l.set p (-1))) := Lib.hid (numL_set hpl)
  obtain ⟨yx, hyx⟩ := numL_at (l := l) hpp hok.len
  have HC := Lib.hid hC
  have cb := hC.b.cell (k := 0) rfl
  have cp := hC.p.cell (k := 0) rfl
  have cn := hC.n.cell (k := 0) rfl
  have lb := hC.b.lt
  have lp := hC.p.lt
  have la := hC.a.lt
  have ln := hC.n.lt
  have lx := hC.x.lt
  obtain ⟨n1, n2, n3, n4, n5, n6, n7, n8, n9, n10⟩ := hC.ne
  clear hC
  have i0 : (0 : Int) ≤ (m : Int) := by omega
  have i1 : ¬ (16 : Int) ≤ (m : Int) := by omega
  have i2 : (m : Int) < 16 := by omega
  have i3 : (0 : Int) ≤ (p : Int) := by omega
  have i4 : (p : Int) < (pages : Int) := by omega
  have t1 : ((p : Int) != -1) = true := by simp <;> omega
  have t2 : ((p : Int) == -1) = false := by simp <;> omega
  have HX := Lib.hid hyx
  clear h hp hyx
  have HB0 : Below w.heap.size w (w.alloc (.cells #[.int .i64 1, .int .i64 (m : Int)] 89)) := (Below.refl _ _).alloc (Nat.le_refl _) _
  have C0 := Lib.hid (HC.out.later HB0)
  have FO := Lib.hid (Blk.new w 89 [.int .i64 1, .int .i64 (m : Int)])
  have e0 : ∀ z : LaterOf (w.alloc (.cells #[.int .i64 1, .int .i64 (m : Int)] 89)), z.w.cell? ⟨w.heap.size, 1, none⟩ = some (.int .i64 (m : Int)) := fun z => z.new_ 1 rfl
  have e1 : ∀ z : LaterOf (w.alloc (.cells #[.int .i64 1, .int .i64 (m : Int)] 89)), z.w.cell? ⟨ga, m, none⟩ = some (.int .i64 (p : Int)) := fun z => z.old ca
  have e2 : ∀ z : LaterOf (w.alloc (.cells #[.int .i64 1, .int .i64 (m : Int)] 89)), z.w.cell? ⟨gn, 0, none⟩ = some (.slice (some ⟨gx, 0, none⟩) pages pages) := fun z => z.old cn
  go_enter Try.func38, Try.ntmps38
  go_upto_region 10 with (fail)
  clear cb cp cn ca
  (refine wp_region_tail 6 (by kernel_rfl) (by kernel_rfl) ?_; simp only [List.take_succ_cons, List.take_zero, List.drop_succ_cons, List.drop_zero]; repeat (go_big_quiet_step (fail)))
  refine wpQuiet_nil ?_; intro xw hw'; obtain ⟨xq, hw''⟩ := hw'; obtain ⟨xw0, xh⟩ := xq; change xw = xw0 at hw''; subst hw''
  have C1 := Lib.hid (C0.out.later xh)
  have FO1 := Lib.hid (FO.out.later xh)
  have T0 := Turns.later (S := Three gb ga gx) (HB0.trans (xh.mono HB0.size))
  have u2 := C1.out.x.froz (k := p)
  have u3 := C1.out.x.cell (hcell HX.out)
  clear e0 e1 e2 C0 FO HB0 xh
  go_upto_region 11 with (fail)
  have HX1 := Lib.hid (set_blk (k := p) C1.out.x (-1))
  have HA1 := Lib.hid (C1.out.a.other (g' := gx) (k := p) n9 (.int .i64 (-1)))
  have HB1 := Lib.hid (C1.out.b.other (g' := gx) (k := p) n4 (.int .i64 (-1)))
  have HP1 := Lib.hid (C1.out.p.other (g' := gx) (k := p) n7 (.int .i64 (-1)))
  have HN1 := Lib.hid (C1.out.n.other (g' := gx) (k := p) n10 (.int .i64 (-1)))
  have FO2 := Lib.hid (FO1.out.other (g' := gx) (k := p) (by omega) (.int .i64 (-1)))
  have T1 := T0.set (g := gx) (k := p) (.inr (.inr rfl)) (.int .i64 (-1))
  rw [HNm.out] at HX1
  clear u2 u3 C1 FO1 T0
  generalize xw.setCell ⟨gx, p, none⟩ (.int .i64 (-1)) = w2 at HX1 HA1 HB1 HP1 HN1 FO2 T1 ⊢
  have u0 := HA1.out.froz (k := m)
  have u1 := HA1.out.cell (hcell (atL_at (l := l) hm))
  rw [HH.out] at u1
  have q0 : w2.cell? ⟨w.heap.size, 0, none⟩ = some (.int .i64 1) := FO2.out.cell rfl
  have q1 : w2.cell? ⟨w.heap.size, 1, none⟩ = some (.int .i64 (m : Int)) := FO2.out.cell rfl
  have HA2 : Hid (Blk (w2.setCell ⟨ga, m, none⟩ (.int .i64 (-1))) ga 34 ((atL (l.set p (-1))).flatMap icell)) := Lib.hid (by
    have := set_blk (k := m) HA1.out (-1)
    rwa [HAt.out] at this)
  have HBb := Lib.hid (HB1.out.other (g' := ga) (k := m) n2 (.int .i64 (-1)))
  have HPp := Lib.hid (HP1.out.other (g' := ga) (k := m) n5 (.int .i64 (-1)))
  have HNn := Lib.hid (HN1.out.other (g' := ga) (k := m) (Ne.symm n8) (.int .i64 (-1)))
  have HXx := Lib.hid (HX1.out.other (g' := ga) (k := m) (Ne.symm n9) (.int .i64 (-1)))
  have FO3 := Lib.hid (FO2.out.other (g' := ga) (k := m) (by omega) (.int .i64 (-1)))
  have T2 := T1.set (g := ga) (k := m) (.inr (.inl rfl)) (.int .i64 (-1))
  clear HX1 HA1 HB1 HP1 HN1 FO2 T1
  go_upto_region 13 with (fail)
  have FO1 := FO3
  have HA1 := HA2
  have T1 := T2
  clear FO3 HA2 T2 u0 u1 q0 q1
  have ca := trivial
  have cb := trivial
  have cp := trivial
  have cn := trivial
  have fa := trivial
  generalize (w2.setCell ⟨ga, m, none⟩ (.int .i64 (-1))) = w1 at FO1 HA1 HBb HPp HNn HXx T1 ⊢
  have hl0 : (l.set p (-1)).length = l.length := by simp
  have hlp : (l.set p (-1)).length < pages := by omega
  have e0 : w1.cell? ⟨w.heap.size, 1, none⟩ = some (.int .i64 (m : Int)) := FO1.out.cell rfl
  have e1 : w1.cell? ⟨gb, 0, none⟩ = some (.int .i64 (l.length : Int)) := HBb.out.cell rfl
  have e2 : w1.cell? ⟨gn, 0, none⟩ = some (.slice (some ⟨gx, 0, none⟩) pages pages) := HNn.out.cell rfl
  have j0 : (0 : Int) ≤ (l.length : Int) := by omega
  have j1 : (l.length : Int) < (pages : Int) := by omega
  have j2 : (l.length : Int) ≤ 4096 := by omega
  obtain ⟨yx, hyx⟩ := numL_at (l := l.set p (-1)) hlp (Nat.le_of_lt hlp)
  rw [hl0] at hyx
  have u0 := HA1.out.froz (k := m)
  have u1 := HA1.out.cell (hcell (atL_at (l := l.set p (-1)) hm))
  have u2 := HXx.out.froz (k := l.length)
  have u3 := HXx.out.cell (hcell hyx)
  have lw := FO1.out.lt
  have d1 : w.heap.size ≠ ga := by omega
  have d2 : w.heap.size ≠ gx := by omega
  have HL0 := Lib.hid hl0
  clear cb cp cn ca fa hyx
  go_region
  have HA3 : Hid (Blk ((w1.setCell ⟨ga, m, none⟩ (.int .i64 (l.length : Int))).setCell ⟨gx, l.length, none⟩ (.int .i64 (m : Int))).drew ga 34 ((atL (l.set p (-1) ++ [(m : Int)])).flatMap icell)) := Lib.hid (by
    have := ((set_blk (k := m) HA1.out (l.length : Int)).other (g' := gx) (k := l.length) n9 (.int .i64 (m : Int))).drew
    rw [← HL0.out, atL_snoc hm HM.out, HL0.out] at this
    exact this)
  have HX3 : Hid (Blk ((w1.setCell ⟨ga, m, none⟩ (.int .i64 (l.length : Int))).setCell ⟨gx, l.length, none⟩ (.int .i64 (m : Int))).drew gx 3 ((numL pages (l.set p (-1) ++ [(m : Int)])).flatMap icell)) := Lib.hid (by
    have := (set_blk (k := l.length) (HXx.out.other (g' := ga) (k := m) (Ne.symm n9) (.int .i64 (l.length : Int))) (m : Int)).drew
    rw [← HL0.out, numL_snoc hlp, HL0.out] at this
    exact this)
  have HB3 := Lib.hid ((HBb.out.other (g' := ga) (k := m) n2 (.int .i64 (l.length : Int))).other (g' := gx) (k := l.length) n4 (.int .i64 (m : Int))).drew
  have HP3 := Lib.hid ((HPp.out.other (g' := ga) (k := m) n5 (.int .i64 (l.length : Int))).other (g' := gx) (k := l.length) n7 (.int .i64 (m : Int))).drew
  have HN3 := Lib.hid ((HNn.out.other (g' := ga) (k := m) (Ne.symm n8) (.int .i64 (l.length : Int))).other (g' := gx) (k := l.length) n10 (.int .i64 (m : Int))).drew
  have T3 := ((T1.set (g := ga) (k := m) (.inr (.inl rfl)) (.int .i64 (l.length : Int))).set (g := gx) (k := l.length) (.inr (.inr rfl)) (.int .i64 (m : Int))).trans (Turns.later (S := Three gb ga gx) (Below.refl _ _).drew)
  clear u0 u1 u2 u3 e0 e1 e2 HA1 HXx HBb HPp HNn FO1 T1
  generalize ((w1.setCell ⟨ga, m, none⟩ (.int .i64 (l.length : Int))).setCell ⟨gx, l.length, none⟩ (.int .i64 (m : Int))).drew = w3 at HA3 HX3 HB3 HP3 HN3 T3 ⊢
  have v0 := HB3.out.froz (k := 0)
  have v1 : w3.cell? ⟨gb, 0, none⟩ = some (.int .i64 (l.length : Int)) := HB3.out.cell rfl
  go_wp2
  go_ret
  refine ⟨rfl, ⟨?_, HP3.out.other (g' := gb) (k := 0) (Ne.symm n1) _, HA3.out.other (g' := gb) (k := 0) (Ne.symm n2) _, HN3.out.other (g' := gb) (k := 0) (Ne.symm n3) _, HX3.out.other (g' := gb) (k := 0) (Ne.symm n4) _, HC.out.ne⟩, T3.set (.inl rfl) _⟩
  have := HB3.out.set (k := 0) (.int .i64 ((l.length : Int) + 1))
  rw [show ((l.set p (-1) ++ [(m : Int)]).length : Int) = (l.length : Int) + 1 by simp]
  exact this

theorem step_any (gb gp ga gn gx pages : Nat) (l : List Int) (w : World) (hC : Caps w gb gp ga gn gx pages l) (hpg : pages ≤ 4096) (o : Op) (e : Int) (l' : List Int) (hok : Ok pages l) (hW : Way pages l o e l') :
    Calls Try.prog 38 #[.agg #[.int .i64 o.kind, .int .i64 o.n], .pointer (some ⟨gb, 0, none⟩), .pointer (some ⟨gp, 0, none⟩), .pointer (some ⟨ga, 0, none⟩), .pointer (some ⟨gn, 0, none⟩)] w (StepRet w gb gp ga gn gx pages l' e) := by
  cases hW with
  | kind h1 h2 => exact step_kind gb gp ga gn gx pages l w hC _ _ h1 h2
  | lo1 h => exact step_lo1 gb gp ga gn gx pages l w hC _ h
  | lo2 h => exact step_lo2 gb gp ga gn gx pages l w hC _ h
  | hi1 h0 h => exact step_hi1 gb gp ga gn gx pages l w hC _ h0 h
  | hi2 h0 h => exact step_hi2 gb gp ga gn gx pages l w hC _ h0 h
  | full hm hl => exact step_full gb gp ga gn gx pages l w hC _ hm hl
  | none2 hm h => exact step_none2 gb gp ga gn gx pages l w hC _ hm h
  | fresh hm hl h => exact step_fresh gb gp ga gn gx pages l w hC hpg _ hm hok hl h
  | over hm hl h hp => exact step_over gb gp ga gn gx pages l w hC hpg _ _ hm hok hl h hp
  | trim hm h hp => exact step_trim gb gp ga gn gx pages l w hC _ _ hm hok h hp
end Rmp
end Go.Proofs.Ytcndddjnlnigeaa
