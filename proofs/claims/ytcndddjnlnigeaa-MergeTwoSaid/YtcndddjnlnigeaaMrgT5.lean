/-
  Walks of merge.Last and merge.Put, of both merges where a table is not right, and of slices.Equal at tables' cells. Conditions: none.
-/
import Derived.Test.YtcndddjnlnigeaaMrgT4
import Derived.Test.YtcndddjnlnigeaaEq
namespace Go.Proofs.Ytcndddjnlnigeaa
open Go.RowKit Go.Shelf
set_option linter.unusedVariables false
namespace Mrg

theorem neqC (x : C) (w : World) : (binOp .neq 44 (.agg #[.int .i64 x.key, .int .i64 x.data, .bool x.gone]) (.agg #[.int .i64 x.key, .int .i64 x.data, .bool x.gone])).run Try.prog w = .ok (.bool false) w := by
  obtain ⟨k, d, g⟩ := x
  exact run_neq_self _ _ w (by kernel_rfl)
set_option maxHeartbeats 1600000 in
theorem equal_cells (A A' : Option Addr) (n c c' : Nat) (l : List C) (w : World) (hr : Rd w w.heap.size 3 A n (l.flatMap C.cells)) (hr' : Rd w w.heap.size 3 A' n (l.flatMap C.cells)) (hl : l.length = n) (hn : n ≤ 9223372036854775807) :
    Calls Try.prog 22 #[.slice A n c, .slice A' n c'] w (Ret w (.bool true)) := by
  have HR := Lib.hid hr
  have HR' := Lib.hid hr'
  have HL := Lib.hid hl
  clear hr hr' hl
  go_enter Try.func22, Try.ntmps22
  go_wp2
  go_loopg [13] n (fun g i wr => ∃ k : Nat, k ≤ n ∧ g = n - k ∧ i = .int .i64 k ∧ Below w.heap.size w wr)
  case atStart => exact ⟨0, Nat.zero_le _, rfl, rfl, Below.refl _ _⟩
  case round =>
    obtain ⟨k, hk, rfl, rfl, hB⟩ := hrel
    by_cases hlt : k < n
    · obtain ⟨b, off, rfl, hb, hc⟩ := HR.out.at_ C.len (by omega)
      obtain ⟨b', off', rfl, hb', hc'⟩ := HR'.out.at_ C.len (by omega)
      obtain ⟨y, hy⟩ : ∃ y, l[k]? = some y := ⟨_, List.getElem?_eq_getElem (by rw [HL.out]; exact hlt)⟩
      have d1 := C.facts hb hB hc hy
      have d2 := C.facts hb' hB hc' hy
      have E := neqC y
      have i0 : (0 : Int) ≤ (k : Int) := by omega
      have i1 : (k : Int) < (n : Int) := by omega
      clear hc hc' hy
      go_wp2
      go_quiet (fail)
      go_wp2
      generalize hxw : World.drewN wr _ = xw
      have xh : Below wr.heap.size wr xw := by rw [← hxw]; exact below_drewN (Below.refl _ _) _
      clear hxw
      go_roundg (n - (k + 1))
      case measure => omega
      case rel => exact ⟨k + 1, by omega, rfl, by go_num, hB.trans (xh.mono hB.size)⟩
    · go_wp2
      go_ret
      exact Ret.mk rfl hB

theorem TwoRet.lift {w w1 : World} {p : List C × Int} {e : Ending} {w' : World} (hb : Below w.heap.size w w1) (h : TwoRet w1 p e w') : TwoRet w p e w' := by
  obtain ⟨A, c, he, hs⟩ := h
  exact ⟨A, c, he, ((Sep.nil_ w).later hb).join hs⟩

set_option maxHeartbeats 1600000 in
theorem two_bad (A1 A2 : Option Addr) (n1 n2 c1 c2 : Nat) (ns os : List C) (w : World) (hr1 : Rd w w.heap.size 3 A1 n1 (ns.flatMap C.cells)) (hl1 : ns.length = n1) (hn1 : n1 ≤ 9223372036854775807) (hr2 : Rd w w.heap.size 3 A2 n2 (os.flatMap C.cells)) (hl2 : os.length = n2) (hn2 : n2 ≤ 9223372036854775807)
    (hbad : ¬ (Rt ns ∧ Rt os)) :
    Calls Try.prog 18 #[.slice A1 n1 c1, .slice A2 n2 c2] w (TwoRet w ([], 1)) := by
  by_cases h1 : Rt ns
  · have h2 : ¬ Rt os := fun h => hbad ⟨h1, h⟩
    have cR1 := Lib.hid (right_is A1 n1 c1 ns true w hr1 hl1 hn1 (rt_iff_true h1))
    have cR2 := Lib.hid (fun W (hW : Below w.heap.size w W) => right_is A2 n2 c2 os false W (hr2.later hW) hl2 hn2 (rt_iff_false h2))
    clear hr1 hr2 hl1 hl2 h1 h2 hbad
    go_enter Try.func18, Try.ntmps18
    go_wp2_with fail
    refine cR1.out.mono ?_; rintro e w1 ⟨rfl, hb1⟩
    go_wp2_with fail
    refine (cR2.out _ hb1).mono ?_; rintro e w2 ⟨rfl, hb2⟩
    have HS0 := Lib.hid ((((Sep.nil_ w).later hb1).later hb2).nilRow 44 3 none)
    clear cR1 cR2 hb1 hb2
    go_wp2
    go_ret2
    exact ⟨none, 0, rfl, HS0.out⟩
  · have cR1 := Lib.hid (right_is A1 n1 c1 ns false w hr1 hl1 hn1 (rt_iff_false h1))
    clear hr1 hr2 hl1 hl2 h1 hbad
    go_enter Try.func18, Try.ntmps18
    go_wp2_with fail
    refine cR1.out.mono ?_; rintro e w1 ⟨rfl, hb1⟩
    have HS0 := Lib.hid (((Sep.nil_ w).later hb1).nilRow 44 3 none)
    clear cR1 hb1
    go_wp2
    go_ret2
    exact ⟨none, 0, rfl, HS0.out⟩
set_option maxHeartbeats 1600000 in
theorem ztwo_bad (A1 A2 : Option Addr) (n1 n2 c1 c2 : Nat) (ns os : List C) (w : World) (hr1 : Rd w w.heap.size 3 A1 n1 (ns.flatMap C.cells)) (hl1 : ns.length = n1) (hn1 : n1 ≤ 9223372036854775807) (hr2 : Rd w w.heap.size 3 A2 n2 (os.flatMap C.cells)) (hl2 : os.length = n2) (hn2 : n2 ≤ 9223372036854775807)
    (hbad : ¬ (Rt ns ∧ Rt os)) :
    Calls Try.prog 19 #[.slice A1 n1 c1, .slice A2 n2 c2] w (TwoRet w ([], 1)) := by
  by_cases h1 : Rt ns
  · have h2 : ¬ Rt os := fun h => hbad ⟨h1, h⟩
    have cR1 := Lib.hid (zright_is A1 n1 c1 ns true w hr1 hl1 hn1 (rt_iff_true h1))
    have cR2 := Lib.hid (fun W (hW : Below w.heap.size w W) => zright_is A2 n2 c2 os false W (hr2.later hW) hl2 hn2 (rt_iff_false h2))
    clear hr1 hr2 hl1 hl2 h1 h2 hbad
    go_enter Try.func19, Try.ntmps19
    go_wp2_with fail
    refine cR1.out.mono ?_; rintro e w1 ⟨rfl, hb1⟩
    go_wp2_with fail
    refine (cR2.out _ hb1).mono ?_; rintro e w2 ⟨rfl, hb2⟩
    have HS0 := Lib.hid ((((Sep.nil_ w).later hb1).later hb2).nilRow 44 3 none)
    clear cR1 cR2 hb1 hb2
    go_wp2
    go_ret2
    exact ⟨none, 0, rfl, HS0.out⟩
  · have cR1 := Lib.hid (zright_is A1 n1 c1 ns false w hr1 hl1 hn1 (rt_iff_false h1))
    clear hr1 hr2 hl1 hl2 h1 hbad
    go_enter Try.func19, Try.ntmps19
    go_wp2_with fail
    refine cR1.out.mono ?_; rintro e w1 ⟨rfl, hb1⟩
    have HS0 := Lib.hid (((Sep.nil_ w).later hb1).nilRow 44 3 none)
    clear cR1 hb1
    go_wp2
    go_ret2
    exact ⟨none, 0, rfl, HS0.out⟩

/-- what both merges answer of two tables, wherever they lie -/
theorem two_both (ns os : List C) : ∃ p : List C × Int, p.1.length ≤ 4096 ∧ ∀ (A1 A2 : Option Addr) (n1 n2 c1 c2 : Nat) (w : World), Rd w w.heap.size 3 A1 n1 (ns.flatMap C.cells) → ns.length = n1 → n1 ≤ c1 → n1 ≤ 9223372036854775807 → Rd w w.heap.size 3 A2 n2 (os.flatMap C.cells) → os.length = n2 → n2 ≤ c2 → n2 ≤ 9223372036854775807 →
    Calls Try.prog 18 #[.slice A1 n1 c1, .slice A2 n2 c2] w (TwoRet w p) ∧ Calls Try.prog 19 #[.slice A1 n1 c1, .slice A2 n2 c2] w (TwoRet w p) := by
  by_cases h : Rt ns ∧ Rt os
  · obtain ⟨r, hm⟩ := mg_ex _ ns os rfl
    refine ⟨outC r, ?_, fun A1 A2 n1 n2 c1 c2 w hr1 hl1 hc1 hn1 hr2 hl2 hc2 hn2 => ⟨two_any A1 A2 n1 n2 c1 c2 ns os r w hr1 hl1 hc1 hr2 hl2 hc2 h.1 h.2 hm, ztwo_any A1 A2 n1 n2 c1 c2 ns os r w hr1 hl1 hc1 hr2 hl2 hc2 h.1 h.2 hm⟩⟩
    unfold outC
    split
    · simp
    · simp only; omega
  · exact ⟨([], 1), by simp, fun A1 A2 n1 n2 c1 c2 w hr1 hl1 hc1 hn1 hr2 hl2 hc2 hn2 => ⟨two_bad A1 A2 n1 n2 c1 c2 ns os w hr1 hl1 hn1 hr2 hl2 hn2 h, ztwo_bad A1 A2 n1 n2 c1 c2 ns os w hr1 hl1 hn1 hr2 hl2 hn2 h⟩⟩

set_option maxHeartbeats 1600000 in
theorem last_any (A : Option Addr) (n c : Nat) (l : List C) (w : World) (hr : Rd w w.heap.size 3 A n (l.flatMap C.cells)) (hl : l.length = n) (h : Rt l) :
    Calls Try.prog 21 #[.slice A n c] w (TwoRet w (lastC l, 0)) := by
  have hn : n ≤ 4096 := by rw [← hl]; exact h.2
  have cR := Lib.hid (right_is A n c l true w hr hl (by omega) (rt_iff_true h))
  have cC := Lib.hid (fun W (hW : Below w.heap.size w W) => clone_any A n c (l.flatMap C.cells) W (hr.later hW) (C.one l) (by omega) (by omega))
  have cD := Lib.hid (fun A' c' W1 W (hS : Sep W1 W [.row 44 3 (.slice A' n c') n (l.flatMap C.cells)]) (hc : n ≤ c') => delete_any A' n c' l W1 W hS hl hn hc)
  clear hr hl h
  go_enter Try.func21, Try.ntmps21
  go_wp2_with fail
  refine cR.out.mono ?_; rintro e w1 ⟨rfl, hb1⟩
  go_wp2_with fail
  refine (cC.out _ hb1).mono ?_; rintro e w2 ⟨A', c', hc', rfl, hS⟩
  have HS := Lib.hid (((Sep.nil_ w).later hb1).join hS)
  clear hS
  go_wp2_with fail
  refine (cD.out A' c' w w2 HS.out hc').mono ?_; rintro e w3 ⟨A3, c3, hc3, rfl, hS3⟩
  have HS3 := Lib.hid hS3
  clear cR cC cD hS3 HS
  go_wp2
  go_ret2
  exact ⟨A3, c3, rfl, HS3.out⟩
set_option maxHeartbeats 1600000 in
theorem last_bad (A : Option Addr) (n c : Nat) (l : List C) (w : World) (hr : Rd w w.heap.size 3 A n (l.flatMap C.cells)) (hl : l.length = n) (hn : n ≤ 9223372036854775807) (h : ¬ Rt l) :
    Calls Try.prog 21 #[.slice A n c] w (TwoRet w ([], 1)) := by
  have cR := Lib.hid (right_is A n c l false w hr hl hn (rt_iff_false h))
  clear hr hl h
  go_enter Try.func21, Try.ntmps21
  go_wp2_with fail
  refine cR.out.mono ?_; rintro e w1 ⟨rfl, hb1⟩
  have HS0 := Lib.hid (((Sep.nil_ w).later hb1).nilRow 44 3 none)
  clear cR hb1
  go_wp2
  go_ret2
  exact ⟨none, 0, rfl, HS0.out⟩

set_option maxHeartbeats 1600000 in
theorem put_any (A : Option Addr) (n c : Nat) (l : List C) (x : C) (p : List C × Int) (w : World) (hr : Rd w w.heap.size 3 A n (l.flatMap C.cells)) 
    (hT : ∀ (A1 : Option Addr) (c1 : Nat) (W : World), 1 ≤ c1 → Rd W W.heap.size 3 A1 1 (([x] : List C).flatMap C.cells) → Rd W W.heap.size 3 A n (l.flatMap C.cells) → Calls Try.prog 18 #[.slice A1 1 c1, .slice A n c] W (TwoRet W p)) :
    Calls Try.prog 20 #[.slice A n c, .agg #[.int .i64 x.key, .int .i64 x.data, .bool x.gone]] w (TwoRet w p) := by
  have HB : Hid (Below w.heap.size w ((w.alloc (.cells #[.int .i64 x.key, .int .i64 x.data, .bool x.gone] 44)).alloc (.cells #[.int .i64 x.key, .int .i64 x.data, .bool x.gone] 44))) := Lib.hid (((Below.refl _ _).alloc (Nat.le_refl _) _).alloc (by simp) _)
  have HN : Hid (Rd ((w.alloc (.cells #[.int .i64 x.key, .int .i64 x.data, .bool x.gone] 44)).alloc (.cells #[.int .i64 x.key, .int .i64 x.data, .bool x.gone] 44)) ((w.alloc (.cells #[.int .i64 x.key, .int .i64 x.data, .bool x.gone] 44)).alloc (.cells #[.int .i64 x.key, .int .i64 x.data, .bool x.gone] 44)).heap.size 3 (some ⟨w.heap.size + 1, 0, none⟩) 1 (([x] : List C).flatMap C.cells)) := Lib.hid (by
    have := Rd.of_own (own_new (w.alloc (.cells #[.int .i64 x.key, .int .i64 x.data, .bool x.gone] 44)) 44 #[.int .i64 x.key, .int .i64 x.data, .bool x.gone] 3 1 rfl (by simp [maxLen]) (Nat.le_refl _))
    rw [show (w.alloc (.cells #[.int .i64 x.key, .int .i64 x.data, .bool x.gone] 44)).heap.size = w.heap.size + 1 by simp] at this
    exact this)
  have cT := Lib.hid (hT _ 1 _ (Nat.le_refl _) HN.out (hr.later HB.out))
  clear hr hT HN
  go_enter Try.func20, Try.ntmps20
  go_wp2_with fail
  refine cT.out.mono ?_; rintro e w1 hret
  obtain ⟨A1, c1, rfl, hS⟩ := hret.lift HB.out
  have HS := Lib.hid hS
  clear hret hS cT HB
  go_wp2
  go_ret2
  exact ⟨A1, c1, rfl, HS.out⟩
end Mrg
end Go.Proofs.Ytcndddjnlnigeaa
