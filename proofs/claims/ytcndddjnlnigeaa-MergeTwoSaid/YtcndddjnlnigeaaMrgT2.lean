/-
  Walk of merge.Two. Conditions: none.
-/
import Derived.Test.YtcndddjnlnigeaaMrgT
import Derived.Test.YtcndddjnlnigeaaMrgR
import Derived.Test.YtcndddjnlnigeaaSep
import Derived.Deep.RegionLaw
import Derived.BigRegion
namespace Go.Proofs.Ytcndddjnlnigeaa
open Go.RowKit
set_option linter.unusedVariables false
namespace Mrg

theorem cell_info : (Try.prog.info? 44).map (fun i => (i.zero, i.size, i.bytes)) = some (some (.agg #[.int .i64 0, .int .i64 0, .bool false]), 3, 24) := by kernel_rfl
theorem rt_iff_true {l : List C} (h : Rt l) : true = true ↔ Rt l := ⟨fun _ => h, fun _ => rfl⟩
theorem rt_iff_false {l : List C} (h : ¬ Rt l) : false = true ↔ Rt l := ⟨fun e => (by cases e), fun e => absurd e h⟩
def TwoRet (w : World) (p : List C × Int) (e : Ending) (w' : World) : Prop :=
  ∃ A c, e = .returned (.tuple #[.slice A p.1.length c, .int .i64 p.2]) ∧ Sep w w' [.row 44 3 (.slice A p.1.length c) p.1.length (p.1.flatMap C.cells)]

theorem C.first {w wr : World} {b off B : Nat} {l : List C} {x : C} (hb : b < B) (hB : Below B w wr) (hc : ∀ (i j : Nat) (y : C) (u : Value), (x :: l)[i]? = some y → y.cells[j]? = some u → w.cell? ⟨b, off + (i * 3 + j), none⟩ = some u) :
    wr.cell? ⟨b, off, none⟩ = some (.int .i64 x.key) ∧ wr.cell? ⟨b, off + 1, none⟩ = some (.int .i64 x.data) ∧ wr.cell? ⟨b, off + 2, none⟩ = some (.bool x.gone) := by
  have := C.facts (k := 0) hb hB hc rfl
  simpa using this

set_option maxRecDepth 100000 in
set_option maxHeartbeats 3200000 in
theorem two_any (A1 A2 : Option Addr) (n1 n2 c1 c2 : Nat) (ns os r : List C) (w : World) (hr1 : Rd w w.heap.size 3 A1 n1 (ns.flatMap C.cells)) (hl1 : ns.length = n1) (hc1 : n1 ≤ c1) (hr2 : Rd w w.heap.size 3 A2 n2 (os.flatMap C.cells)) (hl2 : os.length = n2) (hc2 : n2 ≤ c2)
    (h1 : Rt ns) (h2 : Rt os) (hm : Mg ns os r) :
    Calls Try.prog 18 #[.slice A1 n1 c1, .slice A2 n2 c2] w (TwoRet w (outC r)) := by
  obtain ⟨ti, hti, t0, t1, t2⟩ := info_parts cell_info
  have b1 : n1 ≤ 4096 := by rw [← hl1]; exact h1.2
  have b2 : n2 ≤ 4096 := by rw [← hl2]; exact h2.2
  have HR1 := Lib.hid hr1
  have HR2 := Lib.hid hr2
  have HL1 := Lib.hid hl1
  have HL2 := Lib.hid hl2
  have HM := Lib.hid hm
  have HRL := hm.len
  have cR1 := Lib.hid (fun W (hW : Below w.heap.size w W) => right_is A1 n1 c1 ns true W (hr1.later hW) hl1 (by omega) (rt_iff_true h1))
  have cR2 := Lib.hid (fun W (hW : Below w.heap.size w W) => right_is A2 n2 c2 os true W (hr2.later hW) hl2 (by omega) (rt_iff_true h2))
  clear hr1 hr2 hl1 hl2 hm h1 h2
  go_enter Try.func18, Try.ntmps18
  go_wp2_with fail
  refine (cR1.out _ (Below.refl _ _)).mono ?_; rintro e w1 ⟨rfl, hb1⟩
  go_wp2_with fail
  refine (cR2.out _ hb1).mono ?_; rintro e w2 ⟨rfl, hb2⟩
  have HS0 : Hid (Sep w w2 [.row 44 3 (.slice none 0 0) 0 []]) := Lib.hid ((((Sep.nil_ w).later hb1).later hb2).nilRow 44 3 none)
  clear cR1 cR2 hb1 hb2
  go_wp2
  go_loopg [0, 1, 6] (n1 + n2) (fun g v0 v1 v6 wr => ∃ (A1 A2 A6 : Option Addr) (c1 c2 c6 : Nat) (ns os out : List C), v0 = .slice A1 ns.length c1 ∧ v1 = .slice A2 os.length c2 ∧ v6 = .slice A6 out.length c6 ∧ ns.length ≤ c1 ∧ os.length ≤ c2 ∧ g = ns.length + os.length ∧ Hid (Rd w w.heap.size 3 A1 ns.length (ns.flatMap C.cells)) ∧ Hid (Rd w w.heap.size 3 A2 os.length (os.flatMap C.cells)) ∧ Hid (∃ t, Mg ns os t ∧ out ++ t = r) ∧ out.length + (ns.length + os.length) ≤ 8192 ∧
    Sep w wr [.row 44 3 (.slice A6 out.length c6) out.length (out.flatMap C.cells)])
  case atStart => exact ⟨A1, A2, none, c1, c2, 0, ns, os, [], by rw [HL1.out], by rw [HL2.out], rfl, by rw [HL1.out]; exact hc1, by rw [HL2.out]; exact hc2, by rw [HL1.out, HL2.out], by rw [HL1.out]; exact HR1, by rw [HL2.out]; exact HR2, Lib.hid ⟨r, HM.out, rfl⟩, by rw [HL1.out, HL2.out]; simp; omega, HS0.out⟩
  case round =>
    clear HR1 HR2 HL1 HL2 HM HRL hc1 hc2 HS0 b1 b2 w1 w2
    obtain ⟨A1, A2, A6, c1, c2, c6, ns, os, out, rfl, rfl, rfl, hc1, hc2, rfl, HR1, HR2, HM, hbd, hs⟩ := hrel
    have HS := Lib.hid hs
    clear hs
    obtain ⟨t, hm, ht⟩ := HM.out
    have HT := Lib.hid ht
    clear ht HM
    cases hm with
    | nil =>
      have HE : Hid (out = r) := Lib.hid (by rw [← HT.out]; simp)
      simp only [List.length_nil] at hc1 hc2 hbd ⊢
      clear HR1 HR2 HT
      by_cases hbig : (4096 : Int) < (out.length : Int)
      · have HO : Hid (outC r = ([], 4)) := Lib.hid (by rw [← HE.out, outC, if_pos (by omega)])
        go_wp2
        go_ret2
        rw [HO.out]
        exact ⟨none, 0, rfl, (HS.out.pick [] (by decide) (by simp)).nilRow 44 3 none⟩
      · have HO : Hid (outC r = (out, 0)) := Lib.hid (by rw [← HE.out, outC, if_neg (by omega)])
        go_wp2
        go_ret2
        rw [HO.out]
        exact ⟨A6, c6, rfl, HS.out⟩
    | @new1 n ns t h =>
      obtain ⟨b, off, rfl, hb, hc⟩ := HR1.out.at_ C.len (by simp)
      obtain ⟨d0, d1, d2⟩ := C.first hb HS.out.below hc
      obtain ⟨A', hsl1, hrd1⟩ := rd_from (t := 42) (P := Try.prog) Try.underlying42 (size_of_info hti t1) HR1.out (k := 1) (by simp) hc1 1 rfl
      have HH := Lib.hid h
      have HRD := Lib.hid hrd1
      have HC := Lib.hid hc
      clear hc h hrd1 HR1
      simp only [List.length_cons, Nat.add_sub_cancel, List.length_nil] at hsl1 hbd hc1 hc2 ⊢
      have i0 : (0 : Int) < ((ns.length : Int) + 1) := by omega
      go_wp2
      go_quiet (fail)
      go_wp2
      go_quiet (fail)
      generalize hxw : World.drewN (World.drewN wr _) _ = xw
      have xh : Below wr.heap.size wr xw := by rw [← hxw]; exact below_drewN (below_drewN (Below.refl _ _) _) _
      clear hxw
      have HS3 := Lib.hid (HS.out.later xh)
      obtain ⟨e0, e1, e2⟩ := C.first hb HS3.out.below HC.out
      clear d0 d1 d2 HS HC
      have hnew := Lib.hid (Rd.of_own (own_new xw 44 #[.int .i64 n.key, .int .i64 n.data, .bool n.gone] 3 1 rfl (by simp [maxLen]) (Nat.le_refl _)))
      go_wp2
      go_region_law (refine step_append_sep (HS3.out.alloc _).drew 0 rfl (.tmp 58) (.tmp 62) 42 rfl 44 ti (.agg #[.int .i64 0, .int .i64 0, .bool false]) 3 24 Try.underlying42 hti t0 t1 t2 rfl (by omega) _ out.length _ (by simp [Act.eval]) rfl _ _ 1 1 _ (by simp [Act.eval]) hnew.out.drew (by simp [Value.oneCell']) (by simp only [maxLen]; omega) (by omega) ?_; intro A7 c7 w7 hc7 hs7 H7)
      go_wp2
      go_roundg (ns.length + 0)
      case measure => first | omega | (simp; done) | (simp; omega)
      case rel => exact ⟨A', A2, A7, c1 - 1, c2, c7, ns, [], out ++ [n], rfl, rfl, by simp, by omega, by simp, rfl, HRD, HR2, Lib.hid ⟨t, HH.out, by rw [← HT.out]; simp⟩, by simp; omega, by rw [List.length_append, List.flatMap_append]; exact H7⟩
    | @new2 n o ns os t hk h =>
      obtain ⟨b, off, rfl, hb, hc⟩ := HR1.out.at_ C.len (by simp)
      obtain ⟨b', off', rfl, hb', hc'⟩ := HR2.out.at_ C.len (by simp)
      obtain ⟨d0, d1, d2⟩ := C.first hb HS.out.below hc
      obtain ⟨d3, d4, d5⟩ := C.first hb' HS.out.below hc'
      obtain ⟨A', hsl1, hrd1⟩ := rd_from (t := 42) (P := Try.prog) Try.underlying42 (size_of_info hti t1) HR1.out (k := 1) (by simp) hc1 1 rfl
      have HH := Lib.hid h
      have HRD := Lib.hid hrd1
      have HC := Lib.hid hc
      have k1 : n.key ≤ o.key := by omega
      have k2 : (o.key == n.key) = false := by simp; omega
      clear hc hc' h hrd1 HR1 hk
      simp only [List.length_cons, Nat.add_sub_cancel] at hsl1 hbd hc1 hc2 ⊢
      have i0 : (0 : Int) < ((ns.length : Int) + 1) := by omega
      have i1 : (0 : Int) < ((os.length : Int) + 1) := by omega
      have i2 : ((os.length : Int) + 1 == 0) = false := by simp; omega
      go_wp2
      go_quiet (fail)
      go_wp2
      go_quiet (fail)
      generalize hxw : World.drewN (World.drewN wr _) _ = xw
      have xh : Below wr.heap.size wr xw := by rw [← hxw]; exact below_drewN (below_drewN (Below.refl _ _) _) _
      clear hxw
      have HS3 := Lib.hid (HS.out.later xh)
      obtain ⟨e0, e1, e2⟩ := C.first hb HS3.out.below HC.out
      clear d0 d1 d2 d3 d4 d5 HS HC
      have hnew := Lib.hid (Rd.of_own (own_new xw 44 #[.int .i64 n.key, .int .i64 n.data, .bool n.gone] 3 1 rfl (by simp [maxLen]) (Nat.le_refl _)))
      go_wp2
      go_region_law (refine step_append_sep (HS3.out.alloc _).drew 0 rfl (.tmp 58) (.tmp 62) 42 rfl 44 ti (.agg #[.int .i64 0, .int .i64 0, .bool false]) 3 24 Try.underlying42 hti t0 t1 t2 rfl (by omega) _ out.length _ (by simp [Act.eval]) rfl _ _ 1 1 _ (by simp [Act.eval]) hnew.out.drew (by simp [Value.oneCell']) (by simp only [maxLen]; omega) (by omega) ?_; intro A7 c7 w7 hc7 hs7 H7)
      go_wp2
      go_roundg (ns.length + (os.length + 1))
      case measure => first | omega | (simp; done) | (simp; omega)
      case rel => exact ⟨A', _, A7, c1 - 1, c2, c7, ns, o :: os, out ++ [n], rfl, rfl, by simp, by omega, by simp; omega, by simp, HRD, HR2, Lib.hid ⟨t, HH.out, by rw [← HT.out]; simp⟩, by simp; omega, by rw [List.length_append, List.flatMap_append]; exact H7⟩
    | @both n o ns os t hk h =>
      obtain ⟨b, off, rfl, hb, hc⟩ := HR1.out.at_ C.len (by simp)
      obtain ⟨b', off', rfl, hb', hc'⟩ := HR2.out.at_ C.len (by simp)
      obtain ⟨d0, d1, d2⟩ := C.first hb HS.out.below hc
      obtain ⟨d3, d4, d5⟩ := C.first hb' HS.out.below hc'
      obtain ⟨A', hsl1, hrd1⟩ := rd_from (t := 42) (P := Try.prog) Try.underlying42 (size_of_info hti t1) HR1.out (k := 1) (by simp) hc1 1 rfl
      obtain ⟨A'', hsl2, hrd2⟩ := rd_from (t := 42) (P := Try.prog) Try.underlying42 (size_of_info hti t1) HR2.out (k := 1) (by simp) hc2 1 rfl
      have HH := Lib.hid h
      have HRD := Lib.hid hrd1
      have HRD2 := Lib.hid hrd2
      have HC := Lib.hid hc
      have k1 : n.key ≤ o.key := by omega
      have k2 : (o.key == n.key) = true := by simp; omega
      clear hc hc' h hrd1 hrd2 HR1 HR2 hk
      simp only [List.length_cons, Nat.add_sub_cancel] at hsl1 hsl2 hbd hc1 hc2 ⊢
      have i0 : (0 : Int) < ((ns.length : Int) + 1) := by omega
      have i1 : (0 : Int) < ((os.length : Int) + 1) := by omega
      have i2 : ((os.length : Int) + 1 == 0) = false := by simp; omega
      go_wp2
      go_quiet (fail)
      go_wp2
      go_quiet (fail)
      go_wp2
      generalize hxw : World.drewN wr _ = xw
      have xh : Below wr.heap.size wr xw := by rw [← hxw]; exact below_drewN (Below.refl _ _) _
      clear hxw
      have HS3 := Lib.hid (HS.out.later xh)
      obtain ⟨e0, e1, e2⟩ := C.first hb HS3.out.below HC.out
      clear d0 d1 d2 d3 d4 d5 HS HC
      have hnew := Lib.hid (Rd.of_own (own_new xw 44 #[.int .i64 n.key, .int .i64 n.data, .bool n.gone] 3 1 rfl (by simp [maxLen]) (Nat.le_refl _)))
      go_wp2
      go_region_law (refine step_append_sep (HS3.out.alloc _).drew 0 rfl (.tmp 58) (.tmp 62) 42 rfl 44 ti (.agg #[.int .i64 0, .int .i64 0, .bool false]) 3 24 Try.underlying42 hti t0 t1 t2 rfl (by omega) _ out.length _ (by simp [Act.eval]) rfl _ _ 1 1 _ (by simp [Act.eval]) hnew.out.drew (by simp [Value.oneCell']) (by simp only [maxLen]; omega) (by omega) ?_; intro A7 c7 w7 hc7 hs7 H7)
      go_wp2
      go_roundg (ns.length + os.length)
      case measure => first | omega | (simp; done) | (simp; omega)
      case rel => exact ⟨A', A'', A7, c1 - 1, c2 - 1, c7, ns, os, out ++ [n], rfl, rfl, by simp, by omega, by omega, rfl, HRD, HRD2, Lib.hid ⟨t, HH.out, by rw [← HT.out]; simp⟩, by simp; omega, by rw [List.length_append, List.flatMap_append]; exact H7⟩
    | @old1 o os t h =>
      obtain ⟨b', off', rfl, hb', hc'⟩ := HR2.out.at_ C.len (by simp)
      obtain ⟨d3, d4, d5⟩ := C.first hb' HS.out.below hc'
      obtain ⟨A'', hsl2, hrd2⟩ := rd_from (t := 42) (P := Try.prog) Try.underlying42 (size_of_info hti t1) HR2.out (k := 1) (by simp) hc2 1 rfl
      have HH := Lib.hid h
      have HRD2 := Lib.hid hrd2
      have HC := Lib.hid hc'
      clear hc' h hrd2 HR2
      simp only [List.length_cons, Nat.add_sub_cancel, List.length_nil] at hsl2 hbd hc1 hc2 ⊢
      have i1 : (0 : Int) < ((os.length : Int) + 1) := by omega
      have i2 : ((os.length : Int) + 1 == 0) = false := by simp; omega
      go_wp2
      go_quiet (fail)
      generalize hxw : World.drewN wr _ = xw
      have xh : Below wr.heap.size wr xw := by rw [← hxw]; exact below_drewN (Below.refl _ _) _
      clear hxw
      have HS3 := Lib.hid (HS.out.later xh)
      obtain ⟨e0, e1, e2⟩ := C.first hb' HS3.out.below HC.out
      clear d3 d4 d5 HS HC
      have hnew := Lib.hid (Rd.of_own (own_new xw 44 #[.int .i64 o.key, .int .i64 o.data, .bool o.gone] 3 1 rfl (by simp [maxLen]) (Nat.le_refl _)))
      go_wp2
      go_region_law (refine step_append_sep (HS3.out.alloc _).drew 0 rfl (.tmp 66) (.tmp 70) 42 rfl 44 ti (.agg #[.int .i64 0, .int .i64 0, .bool false]) 3 24 Try.underlying42 hti t0 t1 t2 rfl (by omega) _ out.length _ (by simp [Act.eval]) rfl _ _ 1 1 _ (by simp [Act.eval]) hnew.out.drew (by simp [Value.oneCell']) (by simp only [maxLen]; omega) (by omega) ?_; intro A7 c7 w7 hc7 hs7 H7)
      go_wp2
      go_roundg (0 + os.length)
      case measure => first | omega | (simp; done) | (simp; omega)
      case rel => exact ⟨A1, A'', A7, c1, c2 - 1, c7, [], os, out ++ [o], rfl, rfl, by simp, by simp, by omega, rfl, HR1, HRD2, Lib.hid ⟨t, HH.out, by rw [← HT.out]; simp⟩, by simp; omega, by rw [List.length_append, List.flatMap_append]; exact H7⟩
    | @old2 n o ns os t hk h =>
      obtain ⟨b, off, rfl, hb, hc⟩ := HR1.out.at_ C.len (by simp)
      obtain ⟨b', off', rfl, hb', hc'⟩ := HR2.out.at_ C.len (by simp)
      obtain ⟨d0, d1, d2⟩ := C.first hb HS.out.below hc
      obtain ⟨d3, d4, d5⟩ := C.first hb' HS.out.below hc'
      obtain ⟨A'', hsl2, hrd2⟩ := rd_from (t := 42) (P := Try.prog) Try.underlying42 (size_of_info hti t1) HR2.out (k := 1) (by simp) hc2 1 rfl
      have HH := Lib.hid h
      have HRD2 := Lib.hid hrd2
      have HC := Lib.hid hc'
      have k1 : ¬ n.key ≤ o.key := by omega
      clear hc hc' h hrd2 HR2 hk
      simp only [List.length_cons, Nat.add_sub_cancel] at hsl2 hbd hc1 hc2 ⊢
      have i0 : (0 : Int) < ((ns.length : Int) + 1) := by omega
      have i1 : (0 : Int) < ((os.length : Int) + 1) := by omega
      have i2 : ((os.length : Int) + 1 == 0) = false := by simp; omega
      go_wp2
      go_quiet (fail)
      generalize hxw : World.drewN wr _ = xw
      have xh : Below wr.heap.size wr xw := by rw [← hxw]; exact below_drewN (Below.refl _ _) _
      clear hxw
      have HS3 := Lib.hid (HS.out.later xh)
      obtain ⟨e0, e1, e2⟩ := C.first hb' HS3.out.below HC.out
      clear d0 d1 d2 d3 d4 d5 HS HC
      have hnew := Lib.hid (Rd.of_own (own_new xw 44 #[.int .i64 o.key, .int .i64 o.data, .bool o.gone] 3 1 rfl (by simp [maxLen]) (Nat.le_refl _)))
      go_wp2
      go_region_law (refine step_append_sep (HS3.out.alloc _).drew 0 rfl (.tmp 66) (.tmp 70) 42 rfl 44 ti (.agg #[.int .i64 0, .int .i64 0, .bool false]) 3 24 Try.underlying42 hti t0 t1 t2 rfl (by omega) _ out.length _ (by simp [Act.eval]) rfl _ _ 1 1 _ (by simp [Act.eval]) hnew.out.drew (by simp [Value.oneCell']) (by simp only [maxLen]; omega) (by omega) ?_; intro A7 c7 w7 hc7 hs7 H7)
      go_wp2
      go_roundg ((ns.length + 1) + os.length)
      case measure => first | omega | (simp; done) | (simp; omega)
      case rel => exact ⟨_, A'', A7, c1, c2 - 1, c7, n :: ns, os, out ++ [o], rfl, rfl, by simp, by simp; omega, by omega, by simp, HR1, HRD2, Lib.hid ⟨t, HH.out, by rw [← HT.out]; simp⟩, by simp; omega, by rw [List.length_append, List.flatMap_append]; exact H7⟩
end Mrg
end Go.Proofs.Ytcndddjnlnigeaa
