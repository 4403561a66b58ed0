/-
  Walks of remap.unmapped, remap.Again and of the reference's HAgain. Conditions: none.
-/
import Derived.Test.YtcndddjnlnigeaaRmpM
import Derived.Test.YtcndddjnlnigeaaBlk
import Derived.IntWalk
namespace Go.Proofs.Ytcndddjnlnigeaa
open Go.RowKit
set_option linter.unusedVariables false
namespace Rmp

theorem drop_at {α : Type} {l : List α} {k : Nat} {x : α} (h : l[k]? = some x) : l.drop k = x :: l.drop (k + 1) := by
  obtain ⟨hk, rfl⟩ := List.getElem?_eq_some_iff.1 h
  exact List.drop_eq_getElem_cons hk
theorem hcell {l : List Int} {k : Nat} {x : Int} (h : l[k]? = some x) : (l.flatMap icell)[k]? = some (.int .i64 x) := by rw [icell_at, h]; rfl
theorem set_blk {w : World} {g t k : Nat} {l : List Int} (h : Blk w g t (l.flatMap icell)) (x : Int) : Blk (w.setCell ⟨g, k, none⟩ (.int .i64 x)) g t ((l.set k x).flatMap icell) := by
  rw [← icell_set]
  exact h.set _
theorem info16 : (Try.prog.info? 34).map (·.size) = some (zero16.flatMap icell).length := by kernel_rfl
theorem size16 {l : List Int} (h : l.length = 16) : (Try.prog.info? 34).map (·.size) = some (l.flatMap icell).length := by rw [icell_size, h]; exact info16
theorem size16' {l : List Int} (h : l.length = 16) : (Try.prog.info? 34).map (·.size) = some (l.flatMap icell).toArray.size := by rw [List.size_toArray]; exact size16 h
theorem same16 {l m : List Int} (h : l.length = 16) (h' : m.length = 16) : (l.flatMap icell).toArray.size = (m.flatMap icell).toArray.size := by rw [List.size_toArray, List.size_toArray, icell_size, icell_size, h, h']
def rowV (l : List Int) : Value := .agg (l.flatMap icell).toArray
def rowE (p : List Int × Int) : Value := .tuple #[rowV p.1, .int .i64 p.2]
theorem rowE_eq {p q : List Int × Int} (h : p = q) : rowE p = rowE q := by rw [h]
abbrev Z16 : Array Value := (zero16.flatMap icell).toArray

set_option maxHeartbeats 800000 in
theorem unmapped_any (w : World) : Calls Try.prog 37 #[] w (Ret w (rowV neg16)) := by
  have F0 : Hid (Blk ((w.alloc (.cells Z16 34)).alloc (.cells Z16 34)) w.heap.size 34 (zero16.flatMap icell)) := Lib.hid ((Blk.new w _ _).alloc _)
  have F1 : Hid (Blk ((w.alloc (.cells Z16 34)).alloc (.cells Z16 34)) (w.heap.size + 1) 34 ((mk16 (fun _ => -1) 0 0).flatMap icell)) := Lib.hid (by
    rw [mk16_zero]
    have := Blk.new (w.alloc (.cells Z16 34)) 34 (zero16.flatMap icell)
    rwa [show (w.alloc (.cells Z16 34)).heap.size = w.heap.size + 1 by simp] at this)
  have hB0 : Below w.heap.size w ((w.alloc (.cells Z16 34)).alloc (.cells Z16 34)) := ((Below.refl _ _).alloc (Nat.le_refl _) _).alloc (by simp) _
  go_enter Try.func37, Try.ntmps37
  go_wp2
  go_loopg [3] 16 (fun g i wr => ∃ k : Nat, k ≤ 16 ∧ g = 16 - k ∧ i = .int .i64 k ∧ Blk wr w.heap.size 34 (zero16.flatMap icell) ∧ Blk wr (w.heap.size + 1) 34 ((mk16 (fun _ => -1) 0 k).flatMap icell) ∧ Below w.heap.size w wr)
  case atStart => exact ⟨0, by omega, rfl, rfl, F0.out, F1.out, hB0⟩
  case round =>
    obtain ⟨k, hk, rfl, rfl, hz, hp, hB⟩ := hrel
    have HZ := Lib.hid hz
    have HP := Lib.hid hp
    have hzz := hp.lt
    clear hz hp F0 F1 hB0
    by_cases hlt : k < 16
    · have hset := Lib.hid (mk16_set (f := fun _ => (-1 : Int)) (z := 0) hlt)
      have u0 := HP.out.froz (k := k)
      have u1 := HP.out.cell (hcell (mk16_at (f := fun _ => (-1 : Int)) (z := 0) (k := k) hlt))
      have i0 : (0 : Int) ≤ (k : Int) := by omega
      have i1 : (k : Int) < 16 := by omega
      have hS : Hid (Blk (wr.setCell ⟨w.heap.size + 1, k, none⟩ (.int .i64 (-1))) (w.heap.size + 1) 34 ((mk16 (fun _ => -1) 0 (k + 1)).flatMap icell)) := Lib.hid (by
        have := set_blk (k := k) HP.out (-1)
        rwa [hset.out] at this)
      have hS' := Lib.hid (HZ.out.other (g' := w.heap.size + 1) (k := k) (by omega) (.int .i64 (-1)))
      have hB1 := hB.setCell (p := ⟨w.heap.size + 1, k, none⟩) (by simp) (.int .i64 (-1))
      go_wp2
      go_roundg (16 - (k + 1))
      case measure => omega
      case rel => exact ⟨k + 1, by omega, rfl, by go_num, hS'.out, hS.out, hB1⟩
    · obtain rfl : k = 16 := by omega
      rw [mk16_neg] at HP
      clear hlt hk
      go_wp2_with (first
        | refine wpList_load_row rfl 34 (.tmp 1) rfl (w.heap.size + 1) rfl 34 (neg16.flatMap icell).toArray (0, 0) (.array 16 3) HP.out Try.underlying34 rfl (size16' rfl) ?_
        | refine wpList_store_row rfl 34 (.tmp 0) (.tmp 9) rfl w.heap.size (neg16.flatMap icell).toArray rfl rfl 34 Z16 HZ.out (size16' rfl) (same16 rfl rfl) (icell_one neg16) ?_)
      have hld := (HZ.out.row (neg16.flatMap icell)).load Try.underlying34 (size16 rfl)
      have hB3 := below_row hB (Nat.le_refl _) (neg16.flatMap icell).toArray
      refine bodyPost_ret (v := rowV neg16) ?_ rfl ?_
      · simp [results, Try.results37, Act.put, asAddr, rowV, hld]
      · exact ⟨rfl, hB3⟩

set_option maxRecDepth 100000 in
set_option maxHeartbeats 1600000 in
theorem again_any (A : Option Addr) (n c : Nat) (l : List Int) (w : World) (hr : Rd w w.heap.size 1 A n (l.flatMap icell)) (hl : l.length = n) (hn : n ≤ 9223372036854775807) :
    Calls Try.prog 14 #[.slice A n c] w (Ret w (rowE (agE l))) := by
  have HR := Lib.hid hr
  have HL := Lib.hid hl
  have F0 : Hid (Blk (w.alloc (.cells Z16 34)) w.heap.size 34 (zero16.flatMap icell)) := Lib.hid (Blk.new w _ _)
  have hB0 : Below w.heap.size w (w.alloc (.cells Z16 34)) := (Below.refl _ _).alloc (Nat.le_refl _) _
  clear hr hl
  go_enter Try.func14, Try.ntmps14
  go_wp2_with fail
  refine (unmapped_any _).mono ?_; rintro e w1 ⟨rfl, hb1⟩
  have F1 := Lib.hid (F0.out.later hb1)
  have hB1 := hB0.trans (hb1.mono hB0.size)
  have F4 : Hid (Blk (w1.alloc (.cells Z16 34)) w1.heap.size 34 (zero16.flatMap icell)) := Lib.hid (Blk.new w1 _ _)
  have hz1 := F1.out.lt
  go_upto_region 2 with (refine wpList_store_row rfl 34 (.tmp 4) (.tmp 7) rfl w1.heap.size (neg16.flatMap icell).toArray rfl rfl 34 Z16 F4.out (size16' rfl) (same16 rfl rfl) (icell_one neg16) ?_)
  have F4a := Lib.hid (F4.out.row (neg16.flatMap icell))
  have F1a := Lib.hid ((F1.out.alloc (.cells Z16 34)).rowOther (g' := w1.heap.size) (by omega) (neg16.flatMap icell).toArray)
  have hBa := below_row (hB1.alloc hB1.size (.cells Z16 34)) hB1.size (neg16.flatMap icell).toArray
  have hg4 : w.heap.size ≤ w1.heap.size := hB1.size
  have hg4' : w.heap.size < w1.heap.size := hz1
  clear F0 hB0 hb1 F1 F4 hB1
  generalize w1.heap.size = g4 at F4a F1a hBa hz1 hg4 hg4' ⊢
  have G : ((w1.alloc (.cells #[.int .i64 0, .int .i64 0, .int .i64 0, .int .i64 0, .int .i64 0, .int .i64 0, .int .i64 0, .int .i64 0, .int .i64 0, .int .i64 0, .int .i64 0, .int .i64 0, .int .i64 0, .int .i64 0, .int .i64 0, .int .i64 0] 34)).setRow g4 (neg16.flatMap icell).toArray) = ((w1.alloc (.cells Z16 34)).setRow g4 (neg16.flatMap icell).toArray) := rfl
  try rw [G]
  clear G
  generalize hwa : ((w1.alloc (.cells Z16 34)).setRow g4 (neg16.flatMap icell).toArray) = wa at F4a F1a hBa ⊢
  clear hwa
  go_wp2
  go_loopg [10] n (fun g i wr => ∃ (k : Nat) (cur : List Int), k ≤ n ∧ g = n - k ∧ i = .int .i64 k ∧ Hid (agE l = agA cur k (l.drop k)) ∧ cur.length = 16 ∧ Blk wr g4 34 (cur.flatMap icell) ∧ Blk wr w.heap.size 34 (zero16.flatMap icell) ∧ Below w.heap.size w wr)
  case atStart => exact ⟨0, neg16, Nat.zero_le _, rfl, rfl, Lib.hid rfl, rfl, F4a.out, F1a.out, hBa⟩
  case round =>
    obtain ⟨k, cur, hk, rfl, rfl, HK, hcl, hp, hz, hB⟩ := hrel
    have HP := Lib.hid hp
    have HZ := Lib.hid hz
    clear hp hz F4a F1a hBa
    by_cases hlt : k < n
    · obtain ⟨b, off, rfl, hb, hc⟩ := HR.out.at_ icell_len (by omega)
      obtain ⟨x, hx⟩ : ∃ x, l[k]? = some x := ⟨_, List.getElem?_eq_getElem (by rw [HL.out]; exact hlt)⟩
      have q0 : wr.cell? ⟨b, off + k, none⟩ = some (.int .i64 x) := (hB.cell hb).trans (by have := hc k 0 x _ hx rfl; simpa using this)
      have HX := Lib.hid (drop_at hx)
      clear hc hx
      by_cases hbad : bad x
      · have HE : Hid (agE l = (zero16, 1)) := Lib.hid (by rw [HK.out, HX.out, agA, if_pos hbad])
        have hor : x < 0 ∨ (¬ x < 0 ∧ 16 ≤ x) := by unfold bad at hbad; omega
        clear hbad
        rcases hor with h | ⟨h, h'⟩
        all_goals
          go_wp2_with (refine wpList_store_row rfl 34 (.tmp 2) (.tmp 21) rfl w.heap.size Z16 rfl rfl 34 Z16 HZ.out (size16' rfl) rfl (icell_one zero16) ?_)
          have hld := (HZ.out.row (zero16.flatMap icell)).load Try.underlying34 (size16 rfl)
          have hB3 := below_row hB (Nat.le_refl _) (zero16.flatMap icell).toArray
          refine bodyPost_ret (v := rowE (zero16, 1)) ?_ rfl ?_
          · simp [results, Try.results14, asAddr, rowE, rowV]
            erw [hld]
            rfl
          · exact Ret.mk (rowE_eq HE.out.symm) hB3
      · have HE : Hid (agE l = agA (cur.set x.toNat (k : Int)) (k + 1) (l.drop (k + 1))) := Lib.hid (by rw [HK.out, HX.out, agA, if_neg hbad])
        unfold bad at hbad
        obtain ⟨m, rfl⟩ := Int.eq_ofNat_of_zero_le (show 0 ≤ x by omega)
        have hm16 : m < 16 := by omega
        have i0 : (0 : Int) ≤ (m : Int) := by omega
        have i1 : (m : Int) < 16 := by omega
        obtain ⟨y, hy⟩ : ∃ y, cur[m]? = some y := ⟨_, List.getElem?_eq_getElem (by omega)⟩
        have u0 := HP.out.froz (k := m)
        have u1 := HP.out.cell (hcell hy)
        have hS := Lib.hid (set_blk (k := m) HP.out (k : Int))
        have hS' := Lib.hid (HZ.out.other (g' := g4) (k := m) (by omega) (.int .i64 (k : Int)))
        have hB2 := hB.setCell (p := ⟨g4, m, none⟩) hg4 (.int .i64 (k : Int))
        clear hy hbad
        go_wp2
        go_roundg (n - (k + 1))
        case measure => omega
        case rel => exact ⟨k + 1, cur.set m (k : Int), by omega, rfl, by go_num, HE, by simp [hcl], hS.out, hS'.out, hB2⟩
    · have HE : Hid (agE l = (cur, 0)) := Lib.hid (by rw [HK.out, List.drop_eq_nil_of_le (by rw [HL.out]; omega)]; rfl)
      go_wp2_with (first
        | refine wpList_load_row rfl 34 (.tmp 4) rfl g4 rfl 34 (cur.flatMap icell).toArray (0, 0) (.array 16 3) HP.out Try.underlying34 rfl (size16' hcl) ?_
        | refine wpList_store_row rfl 34 (.tmp 2) (.tmp 26) rfl w.heap.size (cur.flatMap icell).toArray rfl rfl 34 Z16 HZ.out (size16' hcl) (same16 rfl hcl) (icell_one cur) ?_)
      have hld := (HZ.out.row (cur.flatMap icell)).load Try.underlying34 (size16 hcl)
      have hB3 := below_row hB (Nat.le_refl _) (cur.flatMap icell).toArray
      refine bodyPost_ret (v := rowE (cur, 0)) ?_ rfl ?_
      · simp [results, Try.results14, asAddr, rowE, rowV, hld]
      · exact Ret.mk (rowE_eq HE.out.symm) hB3
end Rmp
end Go.Proofs.Ytcndddjnlnigeaa
