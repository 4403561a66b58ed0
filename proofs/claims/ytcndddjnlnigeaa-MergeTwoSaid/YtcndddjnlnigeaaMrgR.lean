/-
  Walks of merge.Right and of the reference's ZRight. Conditions: none.
-/
import Derived.Test.YtcndddjnlnigeaaMrgM
import Derived.Test.YtcndddjnlnigeaaBlk
import Derived.IntWalk
namespace Go.Proofs.Ytcndddjnlnigeaa
open Go.RowKit
set_option linter.unusedVariables false
namespace Mrg

def C.cells (c : C) : List Value := [.int .i64 c.key, .int .i64 c.data, .bool c.gone]
theorem C.len : ∀ c : C, c.cells.length = 3 := fun _ => rfl
theorem drop_at {α : Type} {l : List α} {k : Nat} {x : α} (h : l[k]? = some x) : l.drop k = x :: l.drop (k + 1) := by
  obtain ⟨hk, rfl⟩ := List.getElem?_eq_some_iff.1 h
  exact List.drop_eq_getElem_cons hk
theorem C.facts {w wr : World} {b off B k : Nat} {l : List C} {x : C} (hb : b < B) (hB : Below B w wr) (hc : ∀ (i j : Nat) (x : C) (u : Value), l[i]? = some x → x.cells[j]? = some u → w.cell? ⟨b, off + (i * 3 + j), none⟩ = some u)
    (hx : l[k]? = some x) : wr.cell? ⟨b, off + k * 3, none⟩ = some (.int .i64 x.key) ∧ wr.cell? ⟨b, off + k * 3 + 1, none⟩ = some (.int .i64 x.data) ∧ wr.cell? ⟨b, off + k * 3 + 2, none⟩ = some (.bool x.gone) :=
  ⟨(hB.cell hb).trans (hc k 0 x _ hx rfl), (hB.cell hb).trans (hc k 1 x _ hx rfl), (hB.cell hb).trans (hc k 2 x _ hx rfl)⟩
theorem bool_iff {b : Bool} {p : Prop} [Decidable p] (h : b = true ↔ p) : Value.bool (decide p) = Value.bool b := by
  rw [Bool.eq_iff_iff.2 (show decide p = true ↔ b = true by rw [h]; simp)]
theorem bool_no {b : Bool} {p : Prop} (h : b = true ↔ p) (hp : ¬ p) : b = false := by
  cases b with
  | false => rfl
  | true => exact absurd (h.1 rfl) hp

set_option maxHeartbeats 1600000 in
theorem right_is (A : Option Addr) (n c : Nat) (l : List C) (b0 : Bool) (w : World) (hr : Rd w w.heap.size 3 A n (l.flatMap C.cells)) (hl : l.length = n) (hn : n ≤ 9223372036854775807) (hb : b0 = true ↔ Rt l) :
    Calls Try.prog 40 #[.slice A n c] w (Ret w (.bool b0)) := by
  have HR := Lib.hid hr
  have HL := Lib.hid hl
  have HBB := Lib.hid hb
  clear hr hl hb
  go_enter Try.func40, Try.ntmps40
  go_wp2
  go_loopg [7] n (fun g i wr => ∃ k : Nat, k ≤ n ∧ g = n - k ∧ i = .int .i64 k ∧ Hid (IncTo l k) ∧ Below w.heap.size w wr)
  case atStart => exact ⟨0, Nat.zero_le _, rfl, rfl, Lib.hid IncTo.zero, Below.refl _ _⟩
  case round =>
    obtain ⟨k, hk, rfl, rfl, HI, hB⟩ := hrel
    by_cases hlt : k < n
    · obtain ⟨b, off, rfl, hbb, hc⟩ := HR.out.at_ C.len (by omega)
      obtain ⟨x, hx⟩ : ∃ x, l[k]? = some x := ⟨_, List.getElem?_eq_getElem (by rw [HL.out]; exact hlt)⟩
      obtain ⟨q0, q1, q2⟩ := C.facts hbb hB hc hx
      have hB1 : Below w.heap.size w (wr.alloc (.cells #[.int .i64 x.key, .int .i64 x.data, .bool x.gone] 44)) := hB.alloc hB.size _
      have e0 : ∀ z : LaterOf (wr.alloc (.cells #[.int .i64 x.key, .int .i64 x.data, .bool x.gone] 44)), z.w.cell? ⟨wr.heap.size, 0, none⟩ = some (.int .i64 x.key) := fun z => z.new_ 0 rfl
      rcases Nat.eq_zero_or_pos k with rfl | hk0
      · simp only [Nat.zero_mul, Nat.add_zero] at q0 q1 q2
        clear hc hx
        go_upto_region 4 with (fail)
        refine wp_region_later (by kernel_rfl) (by kernel_rfl) ?_
        repeat (go_big_quiet_step (fail))
        refine wpQuiet_nil ?_; intro xw hw'; obtain ⟨xq, hw''⟩ := hw'; obtain ⟨xw0, xh⟩ := xq; change xw = xw0 at hw''; subst hw''
        go_wp2
        go_roundg (n - (0 + 1))
        case measure => omega
        case rel => exact ⟨1, by omega, rfl, by go_num, Lib.hid IncTo.one, hB1.trans (xh.mono hB1.size)⟩
      · obtain ⟨j, rfl⟩ : ∃ j, k = j + 1 := ⟨k - 1, by omega⟩
        obtain ⟨y, hy⟩ : ∃ y, l[j]? = some y := ⟨_, List.getElem?_eq_getElem (by rw [HL.out]; omega)⟩
        have e1 : ∀ z : LaterOf (wr.alloc (.cells #[.int .i64 x.key, .int .i64 x.data, .bool x.gone] 44)), z.w.cell? ⟨b, off + j * 3, none⟩ = some (.int .i64 y.key) := fun z => z.old ((hB.cell hbb).trans (hc j 0 y _ hy rfl))
        have i0 : (0 : Int) ≤ (j : Int) := by omega
        have i1 : (j : Int) < (n : Int) := by omega
        have i2 : (0 : Int) < ((j + 1 : Nat) : Int) := by omega
        have i3 : ((j + 1 : Nat) : Int) - 1 = (j : Int) := by omega
        by_cases hle : x.key ≤ y.key
        · obtain rfl : b0 = false := bool_no HBB.out fun h => IncTo.not hy hx hle l.length (by rw [HL.out]; omega) h.1
          clear hc hx hy
          go_upto_region 4 with (fail)
          refine wp_region_later (by kernel_rfl) (by kernel_rfl) ?_
          repeat (go_big_quiet_step (fail))
          refine wpQuiet_nil ?_; intro xw hw'; obtain ⟨xq, hw''⟩ := hw'; obtain ⟨xw0, xh⟩ := xq; change xw = xw0 at hw''; subst hw''
          go_wp2
          go_ret
          exact Ret.mk rfl (hB1.trans (xh.mono hB1.size))
        · have HN : Hid (IncTo l (j + 2)) := Lib.hid (HI.out.succ hy hx (by omega))
          clear hc hx hy
          go_upto_region 4 with (fail)
          refine wp_region_later (by kernel_rfl) (by kernel_rfl) ?_
          repeat (go_big_quiet_step (fail))
          refine wpQuiet_nil ?_; intro xw hw'; obtain ⟨xq, hw''⟩ := hw'; obtain ⟨xw0, xh⟩ := xq; change xw = xw0 at hw''; subst hw''
          go_wp2
          go_roundg (n - (j + 1 + 1))
          case measure => omega
          case rel => exact ⟨j + 2, by omega, rfl, by go_num, HN, hB1.trans (xh.mono hB1.size)⟩
    · obtain rfl : k = n := by omega
      have HE : Hid (b0 = true ↔ (k : Int) ≤ 4096) := Lib.hid (by
        rw [HBB.out]
        have hI : IncTo l l.length := by rw [HL.out]; exact HI.out
        exact ⟨fun h => by have := h.2; rw [HL.out] at this; omega, fun h => ⟨hI, by rw [HL.out]; omega⟩⟩)
      go_wp2
      go_ret
      exact Ret.mk (bool_iff HE.out) hB

set_option maxHeartbeats 3200000 in
theorem zright_is (A : Option Addr) (n c : Nat) (l : List C) (b0 : Bool) (w : World) (hr : Rd w w.heap.size 3 A n (l.flatMap C.cells)) (hl : l.length = n) (hn : n ≤ 9223372036854775807) (hb : b0 = true ↔ Rt l) :
    Calls Try.prog 23 #[.slice A n c] w (Ret w (.bool b0)) := by
  have HR := Lib.hid hr
  have HL := Lib.hid hl
  have HBB := Lib.hid hb
  clear hr hl hb
  go_enter Try.func23, Try.ntmps23
  go_wp2
  go_loopg [3, 11] n (fun g v i wr => ∃ (k : Nat) (o : Bool), k ≤ n ∧ g = n - k ∧ i = .int .i64 k ∧ v = .bool o ∧ Hid (o = true ↔ (IncTo l k ∧ (n : Int) ≤ 4096)) ∧ Below w.heap.size w wr)
  case atStart => exact ⟨0, decide ((n : Int) ≤ 4096), Nat.zero_le _, rfl, rfl, rfl, Lib.hid (show decide ((n : Int) ≤ 4096) = true ↔ (IncTo l 0 ∧ (n : Int) ≤ 4096) from ⟨fun h => ⟨IncTo.zero, by simpa using h⟩, fun h => by simpa using h.2⟩), Below.refl _ _⟩
  case round =>
    obtain ⟨k, o, hk, rfl, rfl, rfl, HI, hB⟩ := hrel
    by_cases hlt : k < n
    · obtain ⟨b, off, rfl, hbb, hc⟩ := HR.out.at_ C.len (by omega)
      obtain ⟨x, hx⟩ : ∃ x, l[k]? = some x := ⟨_, List.getElem?_eq_getElem (by rw [HL.out]; exact hlt)⟩
      obtain ⟨q0, q1, q2⟩ := C.facts hbb hB hc hx
      have hB1 : Below w.heap.size w (wr.alloc (.cells #[.int .i64 x.key, .int .i64 x.data, .bool x.gone] 44)) := hB.alloc hB.size _
      have e0 : ∀ z : LaterOf (wr.alloc (.cells #[.int .i64 x.key, .int .i64 x.data, .bool x.gone] 44)), z.w.cell? ⟨wr.heap.size, 0, none⟩ = some (.int .i64 x.key) := fun z => z.new_ 0 rfl
      cases o with
      | false =>
        have HN : Hid (false = true ↔ (IncTo l (k + 1) ∧ (n : Int) ≤ 4096)) := Lib.hid (show false = true ↔ _ from ⟨fun h => (by cases h), fun h => HI.out.2 ⟨fun j a b hj => h.1 j a b (by omega), h.2⟩⟩)
        clear hc hx
        go_upto_region 5 with (fail)
        refine wp_region_later (by kernel_rfl) (by kernel_rfl) ?_
        repeat (go_big_quiet_step (fail))
        refine wpQuiet_nil ?_; intro xw hw'; obtain ⟨xq, hw''⟩ := hw'; obtain ⟨xw0, xh⟩ := xq; change xw = xw0 at hw''; subst hw''
        go_wp2
        go_roundg (n - (k + 1))
        case measure => omega
        case rel => exact ⟨k + 1, false, by omega, rfl, by go_num, rfl, HN, hB1.trans (xh.mono hB1.size)⟩
      | true =>
        have ho := HI.out.1 rfl
        rcases Nat.eq_zero_or_pos k with rfl | hk0
        · simp only [Nat.zero_mul, Nat.add_zero] at q0 q1 q2
          have HN2 : Hid (IncTo l 1 ∧ (n : Int) ≤ 4096) := Lib.hid ⟨IncTo.one, ho.2⟩
          clear hc hx ho
          go_upto_region 5 with (fail)
          refine wp_region_later (by kernel_rfl) (by kernel_rfl) ?_
          repeat (go_big_quiet_step (fail))
          refine wpQuiet_nil ?_; intro xw hw'; obtain ⟨xq, hw''⟩ := hw'; obtain ⟨xw0, xh⟩ := xq; change xw = xw0 at hw''; subst hw''
          go_wp2
          go_roundg (n - (0 + 1))
          case measure => omega
          case rel => exact ⟨1, true, by omega, rfl, by go_num, rfl, Lib.hid ⟨fun _ => HN2.out, fun _ => rfl⟩, hB1.trans (xh.mono hB1.size)⟩
        · obtain ⟨j, rfl⟩ : ∃ j, k = j + 1 := ⟨k - 1, by omega⟩
          obtain ⟨y, hy⟩ : ∃ y, l[j]? = some y := ⟨_, List.getElem?_eq_getElem (by rw [HL.out]; omega)⟩
          have e1 : ∀ z : LaterOf (wr.alloc (.cells #[.int .i64 x.key, .int .i64 x.data, .bool x.gone] 44)), z.w.cell? ⟨b, off + j * 3, none⟩ = some (.int .i64 y.key) := fun z => z.old ((hB.cell hbb).trans (hc j 0 y _ hy rfl))
          have i0 : (0 : Int) ≤ (j : Int) := by omega
          have i1 : (j : Int) < (n : Int) := by omega
          have i2 : ((j : Int) + 1 == 0) = false := by simp; omega
          have i3 : ((j + 1 : Nat) : Int) - 1 = (j : Int) := by omega
          have HN : ∀ b : Bool, decide (y.key < x.key) = b → Hid (b = true ↔ (IncTo l (j + 1 + 1) ∧ (n : Int) ≤ 4096)) := fun b hb => Lib.hid (by
            subst hb
            rw [decide_eq_true_eq]
            exact ⟨fun h => ⟨ho.1.succ hy hx h, ho.2⟩, fun h => Classical.byContradiction fun h2 => IncTo.not hy hx (by omega) _ (Nat.le_refl _) h.1⟩)
          have HN' := Lib.hid (HN _ rfl)
          clear hc hx hy ho HN
          go_upto_region 5 with (fail)
          refine wp_region_later (by kernel_rfl) (by kernel_rfl) ?_
          repeat (go_big_quiet_step (fail))
          refine wpQuiet_nil ?_; intro xw hw'; obtain ⟨xq, hw''⟩ := hw'; obtain ⟨xw0, xh⟩ := xq; change xw = xw0 at hw''; subst hw''
          go_wp2
          go_roundg (n - (j + 1 + 1))
          case measure => omega
          case rel => exact ⟨j + 1 + 1, decide (y.key < x.key), by omega, rfl, by go_num, rfl, HN'.out, hB1.trans (xh.mono hB1.size)⟩
    · obtain rfl : k = n := by omega
      have HE : Hid (o = b0) := Lib.hid (by
        rw [Bool.eq_iff_iff, HI.out, HBB.out]
        unfold Rt
        rw [HL.out]
        exact ⟨fun h => ⟨h.1, by omega⟩, fun h => ⟨h.1, by omega⟩⟩)
      go_wp2
      go_ret
      exact Ret.mk (bool_eq HE.out) hB
end Mrg
end Go.Proofs.Ytcndddjnlnigeaa
