/-
  Walk of cache.Play. Conditions: none beyond each theorem's own premises.
-/
import Derived.Test.YtfljbiobiobamaaCaW5
import Derived.Deep.MidRow
namespace Go.Proofs.Ytfljbiobiobamaa
open Go.RowKit Go.Shelf
set_option linter.unusedVariables false
namespace Ca
def O.cells (o : O) : List Value := [.int .i64 o.kind, .int .i64 o.page, .int .i64 o.data]
def O.val (o : O) : Value := .agg #[.int .i64 o.kind, .int .i64 o.page, .int .i64 o.data]
theorem O.len : ∀ o : O, o.cells.length = 3 := fun _ => rfl

set_option maxRecDepth 100000 in
set_option maxHeartbeats 1600000 in
theorem wrong_any (o : O) (b : Bool) (w : World) (hb : b = true ↔ ¬ Good o) : Calls Try.prog 20 #[.agg #[.int .i64 o.kind, .int .i64 o.page, .int .i64 o.data]] w (Ret w (.bool b)) := by
  obtain ⟨kd, pg, d⟩ := o
  unfold Good at hb
  simp only at hb ⊢
  have HB := Lib.hid hb
  have hbl : Below w.heap.size w (w.alloc (.cells #[.int .i64 kd, .int .i64 pg, .int .i64 d] 59)) := (Below.refl _ _).alloc (Nat.le_refl _) _
  have f0 := (Blk.new w 59 [.int .i64 kd, .int .i64 pg, .int .i64 d]).cell (k := 0) rfl
  have f1 := (Blk.new w 59 [.int .i64 kd, .int .i64 pg, .int .i64 d]).cell (k := 1) rfl
  have HBL := Lib.hid hbl
  clear hb hbl
  go_enter Try.func20, Try.ntmps20
  go_upto_region 1 with (fail)
  generalize w.alloc (.cells #[.int .i64 kd, .int .i64 pg, .int .i64 d] 59) = w1 at f0 f1 HBL ⊢
  generalize w.heap.size = gx at f0 f1 ⊢
  by_cases h1 : kd < 1
  · obtain rfl : b = true := HB.out.2 (by omega)
    go_wp2
    go_ret
    exact Ret.mk rfl HBL.out
  by_cases h2 : kd > 3
  · obtain rfl : b = true := HB.out.2 (by omega)
    go_wp2
    go_ret
    exact Ret.mk rfl HBL.out
  by_cases h3 : pg < 0
  · obtain rfl : b = true := HB.out.2 (by omega)
    go_wp2
    go_ret
    exact Ret.mk rfl HBL.out
  by_cases h4 : pg ≥ 16
  · obtain rfl : b = true := HB.out.2 (by omega)
    go_wp2
    go_ret
    exact Ret.mk rfl HBL.out
  · obtain rfl : b = false := by
      cases b with
      | false => rfl
      | true => exact absurd (HB.out.1 rfl) (fun h => h (by omega))
    go_wp2
    go_ret
    exact Ret.mk rfl HBL.out

instance (o : O) : Decidable (Good o) := by unfold Good; infer_instance
abbrev wrongF : Value := .func (.func 20) #[] #[]
set_option maxRecDepth 100000 in
set_option maxHeartbeats 1600000 in
theorem oindex_any (A : Option Addr) (n c : Nat) (ops : List O) (w : World) (hr : Rd w w.heap.size 3 A n (ops.flatMap O.cells)) (hl : ops.length = n) (hn : n ≤ 9223372036854775807) :
    Calls Try.prog 42 #[.slice A n c, wrongF] w (fun e w' => ∃ out : Int, e = .returned (.int .i64 out) ∧ (0 ≤ out ↔ ∃ o ∈ ops, ¬ Good o) ∧ Below w.heap.size w w') := by
  have HR := Lib.hid hr
  have HL := Lib.hid hl
  have eg := enters_of Try.func20 (by kernel_rfl) rfl
  clear hr hl
  go_enter Try.func42, Try.ntmps42
  go_wp2
  go_loopg [8] n (fun q i wr => ∃ (k : Nat), k ≤ n ∧ q = n - k ∧ i = .int .i64 k ∧ Hid (∀ o ∈ ops.take k, Good o) ∧ Below w.heap.size w wr)
  case atStart => exact ⟨0, Nat.zero_le _, rfl, rfl, Lib.hid (by simp), Below.refl _ _⟩
  case round =>
    obtain ⟨k, hk, rfl, rfl, HG, hb⟩ := hrel
    have HB := Lib.hid hb
    clear hb
    by_cases hlt : k < n
    · obtain ⟨b, off, rfl, hb, hc⟩ := HR.out.at_ O.len (by omega)
      obtain ⟨o, ho⟩ : ∃ o, ops[k]? = some o := ⟨_, List.getElem?_eq_getElem (by rw [HL.out]; exact hlt)⟩
      have q0 : wr.cell? ⟨b, off + k * 3, none⟩ = some (.int .i64 o.kind) := (HB.out.cell hb).trans (hc k 0 o _ ho rfl)
      have q1 : wr.cell? ⟨b, off + k * 3 + 1, none⟩ = some (.int .i64 o.page) := (HB.out.cell hb).trans (hc k 1 o _ ho rfl)
      have q2 : wr.cell? ⟨b, off + k * 3 + 2, none⟩ = some (.int .i64 o.data) := (HB.out.cell hb).trans (hc k 2 o _ ho rfl)
      have i0 : (0 : Int) ≤ (k : Int) := by omega
      have i1 : (k : Int) < (n : Int) := by omega
      have HO := Lib.hid ho
      clear hc ho
      by_cases hg : Good o
      · have cB := Lib.hid (wrong_any o false wr (by simp [hg]))
        have HGG := Lib.hid hg
        clear hg
        go_wp2_with fail
        refine cB.out.mono ?_; rintro en w1 ⟨rfl, hb1⟩
        have B1 := Lib.hid (HB.out.trans (hb1.mono HB.out.size))
        go_wp2
        go_roundg (n - (k + 1))
        case measure => omega
        case rel =>
          refine ⟨k + 1, by omega, rfl, by go_num, Lib.hid (fun x hx => ?_), B1.out⟩
          rw [List.take_add_one, HO.out] at hx
          rcases List.mem_append.1 hx with h | h
          · exact HG.out x h
          · simp only [Option.toList, List.mem_singleton] at h
            rw [h]
            exact HGG.out
      · have cB := Lib.hid (wrong_any o true wr (by simp [hg]))
        have HGG := Lib.hid hg
        clear hg
        go_wp2_with fail
        refine cB.out.mono ?_; rintro en w1 ⟨rfl, hb1⟩
        have B1 := Lib.hid (HB.out.trans (hb1.mono HB.out.size))
        go_wp2
        go_ret
        exact ⟨(k : Int), rfl, ⟨fun _ => ⟨o, List.mem_of_getElem? HO.out, HGG.out⟩, fun _ => by omega⟩, B1.out⟩
    · go_wp2
      go_ret
      refine ⟨-1, rfl, ⟨fun h => absurd h (by decide), fun ⟨o, ho, hno⟩ => absurd (HG.out o ?_) hno⟩, HB.out⟩
      rw [List.take_of_length_le (by rw [HL.out]; omega)]
      exact ho
set_option maxRecDepth 100000 in
set_option maxHeartbeats 1600000 in
theorem contains_any (A : Option Addr) (n c : Nat) (ops : List O) (b : Bool) (w : World) (hr : Rd w w.heap.size 3 A n (ops.flatMap O.cells)) (hl : ops.length = n) (hn : n ≤ 9223372036854775807) (hb : b = true ↔ ∃ o ∈ ops, ¬ Good o) :
    Calls Try.prog 21 #[.slice A n c, wrongF] w (Ret w (.bool b)) := by
  have cI := Lib.hid (oindex_any A n c ops w hr hl hn)
  have HB := Lib.hid hb
  clear hr hl hb
  go_enter Try.func21, Try.ntmps21
  go_wp2_with fail
  refine cI.out.mono ?_; rintro en w1 ⟨out, rfl, ho, hb1⟩
  have HO := Lib.hid ho
  have HB1 := Lib.hid hb1
  clear ho hb1
  cases b with
  | true =>
    have h0 : (0 : Int) ≤ out := HO.out.2 (HB.out.1 rfl)
    go_wp2
    go_ret
    exact Ret.mk rfl HB1.out
  | false =>
    have h0 : ¬ (0 : Int) ≤ out := fun h => absurd (HB.out.2 (HO.out.1 h)) (by decide)
    go_wp2
    go_ret
    exact Ret.mk (bool_eq (decide_eq_false (by omega))) HB1.out
end Ca
end Go.Proofs.Ytfljbiobiobamaa
