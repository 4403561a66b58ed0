/-
  Walk of the reference's TPlay: what is asked wrongly. Conditions: none beyond each theorem's own premises.
-/
import Derived.Test.YtfljbiobiobamaaCaM2
namespace Go.Proofs.Ytfljbiobiobamaa
open Go.RowKit Go.Shelf
set_option linter.unusedVariables false
namespace Ca

set_option maxRecDepth 100000 in
set_option maxHeartbeats 3200000 in
theorem tplay_bad (sz : Int) (Ad : Option Addr) (n c : Nat) (ops : List O) (w : World) (hr : Rd w w.heap.size 3 Ad n (ops.flatMap O.cells)) (hl : ops.length = n) (hn : n ≤ 5864062014806) (hbad : sz < 1 ∨ sz > 16 ∨ ∃ o ∈ ops, ¬ Good o) :
    Calls Try.prog 8 #[.int .i64 sz, .slice Ad n c] w (BadRet w) := by
  have H1 : Hid (Sep w (w.alloc (.cells #[.slice none 0 0, .int .i64 0, .int .i64 0, .int .i64 0, .int .i64 0, .int .i64 0, .int .i64 0, .int .i64 0, .int .i64 0, .int .i64 0, .int .i64 0, .int .i64 0, .int .i64 0, .int .i64 0, .int .i64 0, .int .i64 0, .int .i64 0, .int .i64 0, .int .i64 0] 26)) [.cells w.heap.size 26 Z0]) := Lib.hid ((Sep.nil_ w).new 26 Z0)
  have HBAD := Lib.hid hbad
  have HR := Lib.hid hr
  have HL := Lib.hid hl
  clear hr hl hbad
  go_enter Try.func8, Try.ntmps8
  go_upto_region 1 with (fail)
  generalize w.alloc (.cells #[.slice none 0 0, .int .i64 0, .int .i64 0, .int .i64 0, .int .i64 0, .int .i64 0, .int .i64 0, .int .i64 0, .int .i64 0, .int .i64 0, .int .i64 0, .int .i64 0, .int .i64 0, .int .i64 0, .int .i64 0, .int .i64 0, .int .i64 0, .int .i64 0, .int .i64 0] 26) = w1 at H1 ⊢
  have HBW : Hid (w.heap.size ≤ w.heap.size) := Lib.hid (Nat.le_refl _)
  generalize hg4 : w.heap.size = g4 at H1 ⊢
  have HG4 := Lib.hid hg4
  clear hg4
  by_cases h1 : sz < 1
  · have H2 := Lib.hid H1.out
    generalize w1 = w2 at H2 ⊢
    have HB2 := Lib.hid (H2.out.blk 0 rfl)
    have HW2 := Lib.hid (H2.out.whole 0 rfl Z0)
    go_wp2_with (refine wpList_store_row rfl 26 (.tmp 4) (.tmp 27) rfl g4 Z0.toArray rfl rfl 26 Z0.toArray HB2.out info64z rfl z0_one ?_)
    have hld := z0_load (HW2.out.blk 0 rfl)
    refine bodyPost_ret (v := .tuple #[.agg Z0.toArray, .int .i64 2]) (by simp [results, Try.results8, asAddr, hld]) rfl ?_
    exact ⟨rfl, HW2.out.below⟩
  by_cases h2 : sz > 16
  · have H2 := Lib.hid H1.out
    generalize w1 = w2 at H2 ⊢
    have HB2 := Lib.hid (H2.out.blk 0 rfl)
    have HW2 := Lib.hid (H2.out.whole 0 rfl Z0)
    go_wp2_with (refine wpList_store_row rfl 26 (.tmp 4) (.tmp 27) rfl g4 Z0.toArray rfl rfl 26 Z0.toArray HB2.out info64z rfl z0_one ?_)
    have hld := z0_load (HW2.out.blk 0 rfl)
    refine bodyPost_ret (v := .tuple #[.agg Z0.toArray, .int .i64 2]) (by simp [results, Try.results8, asAddr, hld]) rfl ?_
    exact ⟨rfl, HW2.out.below⟩
  · have HEX : Hid (∃ o ∈ ops, ¬ Good o) := Lib.hid (HBAD.out.elim (fun h => absurd h h1) (fun h => h.elim (fun h => absurd h h2) id))
    go_wp2
    go_loopg [30] n (fun q i wr => ∃ (k : Nat), k ≤ n ∧ q = n - k ∧ i = .int .i64 (k : Int) ∧ Hid (∀ o ∈ ops.take k, Good o) ∧ Sep w wr [.cells g4 26 Z0])
    case atStart => exact ⟨0, Nat.zero_le _, rfl, rfl, Lib.hid (by simp), H1.out⟩
    case round =>
      clear H1
      obtain ⟨k, hk, rfl, rfl, HG, hs⟩ := hrel
      have HS := Lib.hid hs
      clear hs
      by_cases hlt : k < n
      · obtain ⟨b, off, rfl, hbb, hc⟩ := HR.out.at_ O.len (by omega)
        obtain ⟨o, ho⟩ : ∃ o, ops[k]? = some o := ⟨_, List.getElem?_eq_getElem (by rw [HL.out]; exact hlt)⟩
        have HWB := Lib.hid HS.out.below
        have q0 : wr.cell? ⟨b, off + k * 3, none⟩ = some (.int .i64 o.kind) := (HWB.out.cell hbb).trans (hc k 0 o _ ho rfl)
        have q1 : wr.cell? ⟨b, off + k * 3 + 1, none⟩ = some (.int .i64 o.page) := (HWB.out.cell hbb).trans (hc k 1 o _ ho rfl)
        have q2 : wr.cell? ⟨b, off + k * 3 + 2, none⟩ = some (.int .i64 o.data) := (HWB.out.cell hbb).trans (hc k 2 o _ ho rfl)
        have i0 : (0 : Int) ≤ (k : Int) := by omega
        have i1 : (k : Int) < (n : Int) := by omega
        have HO := Lib.hid ho
        clear hc ho hbb HWB
        go_upto_region 6 with (fail)
        have p0 := (Blk.new wr 59 o.cells).cell (k := 0) rfl
        have p1 := (Blk.new wr 59 o.cells).cell (k := 1) rfl
        have p2 := (Blk.new wr 59 o.cells).cell (k := 2) rfl
        unfold O.cells at p0 p1 p2
        have H2 := Lib.hid (HS.out.alloc (.cells #[.int .i64 o.kind, .int .i64 o.page, .int .i64 o.data] 59))
        clear q0 q1 q2 HS p2
        generalize wr.alloc (.cells #[.int .i64 o.kind, .int .i64 o.page, .int .i64 o.data] 59) = w2 at H2 p0 p1 ⊢
        generalize wr.heap.size = gx at p0 p1 ⊢
        obtain ⟨kd, pg, od⟩ := o
        simp only at p0 p1
        by_cases a1 : kd < 1
        · have HB2 := Lib.hid (H2.out.blk 0 rfl)
          have HW2 := Lib.hid (H2.out.whole 0 rfl Z0)
          go_wp2_with (refine wpList_store_row rfl 26 (.tmp 4) (.tmp 52) rfl g4 Z0.toArray rfl rfl 26 Z0.toArray HB2.out info64z rfl z0_one ?_)
          have hld := z0_load (HW2.out.blk 0 rfl)
          refine bodyPost_ret (v := .tuple #[.agg Z0.toArray, .int .i64 2]) (by simp [results, Try.results8, asAddr, hld]) rfl ?_
          exact ⟨rfl, HW2.out.below⟩
        by_cases a2 : kd > 3
        · have HB2 := Lib.hid (H2.out.blk 0 rfl)
          have HW2 := Lib.hid (H2.out.whole 0 rfl Z0)
          go_wp2_with (refine wpList_store_row rfl 26 (.tmp 4) (.tmp 52) rfl g4 Z0.toArray rfl rfl 26 Z0.toArray HB2.out info64z rfl z0_one ?_)
          have hld := z0_load (HW2.out.blk 0 rfl)
          refine bodyPost_ret (v := .tuple #[.agg Z0.toArray, .int .i64 2]) (by simp [results, Try.results8, asAddr, hld]) rfl ?_
          exact ⟨rfl, HW2.out.below⟩
        by_cases a3 : pg < 0
        · have HB2 := Lib.hid (H2.out.blk 0 rfl)
          have HW2 := Lib.hid (H2.out.whole 0 rfl Z0)
          go_wp2_with (refine wpList_store_row rfl 26 (.tmp 4) (.tmp 52) rfl g4 Z0.toArray rfl rfl 26 Z0.toArray HB2.out info64z rfl z0_one ?_)
          have hld := z0_load (HW2.out.blk 0 rfl)
          refine bodyPost_ret (v := .tuple #[.agg Z0.toArray, .int .i64 2]) (by simp [results, Try.results8, asAddr, hld]) rfl ?_
          exact ⟨rfl, HW2.out.below⟩
        by_cases a4 : pg > 15
        · have HB2 := Lib.hid (H2.out.blk 0 rfl)
          have HW2 := Lib.hid (H2.out.whole 0 rfl Z0)
          go_wp2_with (refine wpList_store_row rfl 26 (.tmp 4) (.tmp 52) rfl g4 Z0.toArray rfl rfl 26 Z0.toArray HB2.out info64z rfl z0_one ?_)
          have hld := z0_load (HW2.out.blk 0 rfl)
          refine bodyPost_ret (v := .tuple #[.agg Z0.toArray, .int .i64 2]) (by simp [results, Try.results8, asAddr, hld]) rfl ?_
          exact ⟨rfl, HW2.out.below⟩
        · have HGO : Hid (Good ⟨kd, pg, od⟩) := Lib.hid (by unfold Good; simp only; omega)
          go_wp2
          go_roundg (n - (k + 1))
          case measure => omega
          case rel =>
            refine ⟨k + 1, by omega, rfl, by go_num, Lib.hid (fun x hx => ?_), H2.out⟩
            rw [List.take_add_one, HO.out] at hx
            rcases List.mem_append.1 hx with h | h
            · exact HG.out x h
            · simp only [Option.toList, List.mem_singleton] at h
              rw [h]
              exact HGO.out
      · obtain ⟨o, ho, hno⟩ := HEX.out
        exact absurd (HG.out o (by rw [List.take_of_length_le (by rw [HL.out]; omega)]; exact ho)) hno
end Ca
end Go.Proofs.Ytfljbiobiobamaa
