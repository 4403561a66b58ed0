/-
  Walk of nand.Step. Conditions: none.
-/
import Derived.Test.YtjopiepfjbnkbaaGreatDoorNdW2
namespace Go.Proofs.YtjopiepfjbnkbaaGreatDoor
open Go.RowKit
set_option linter.unusedVariables false
namespace Nd

def Op.cells (o : Op) : List Value := [.int .i64 o.kind, .int .i64 o.block, .int .i64 o.page, .int .i64 o.data]
theorem Op.len : ∀ x : Op, x.cells.length = 4 := fun _ => rfl
/-- a flash of the call's own, a number, an error -/
def StepRet (w : World) (out : List B) (n e : Int) (en : Ending) (w' : World) : Prop :=
  ∃ A c, out.length ≤ c ∧ en = .returned (.tuple #[.slice A out.length c, .int .i64 n, .int .i64 e]) ∧ Sep w w' [.row 95 6 (.slice A out.length c) out.length (out.flatMap B.cells)]
theorem way_rt {l out : List B} {o : Op} {n e : Int} (hw : Way l o out n e) : e ≠ 0 → out = [] ∧ n = 0 := by cases hw <;> simp
theorem B.one (l : List B) : ∀ u ∈ l.flatMap B.cells, u.oneCell' = true := by
  intro u hu
  rw [List.mem_flatMap] at hu
  obtain ⟨x, _, hu⟩ := hu
  simp only [B.cells, List.mem_cons, List.not_mem_nil, or_false] at hu
  rcases hu with rfl | rfl | rfl | rfl | rfl | rfl <;> rfl
theorem rt_true {l : List B} (h : Rt l) : true = true ↔ Rt l := ⟨fun _ => h, fun _ => rfl⟩
theorem rt_false {l : List B} (h : ¬ Rt l) : false = true ↔ Rt l := ⟨fun e => (by cases e), fun e => absurd e h⟩

set_option maxRecDepth 100000 in
set_option maxHeartbeats 1600000 in
theorem step_bad (A : Option Addr) (n c : Nat) (l : List B) (o : Op) (w : World) (hr : Rd w w.heap.size 6 A n (l.flatMap B.cells)) (hl : l.length = n) (hn : n ≤ 9223372036854775807) (hbad : ¬ Rt l) :
    Calls Tryz.prog 100 #[.slice A n c, .agg #[.int .i64 o.kind, .int .i64 o.block, .int .i64 o.page, .int .i64 o.data]] w (StepRet w [] 0 1) := by
  have HS0 : Hid (Sep w (w.alloc (.cells #[.int .i64 o.kind, .int .i64 o.block, .int .i64 o.page, .int .i64 o.data] 169)) []) := Lib.hid ((Sep.nil_ w).alloc _)
  have cR := Lib.hid (right_any A n c l false _ (hr.later HS0.out.below) hl hn (rt_false hbad))
  clear hr hl hbad
  go_enter Tryz.func100, Tryz.ntmps100
  go_wp2_with fail
  refine cR.out.mono ?_; rintro e1 w1 ⟨rfl, hb1⟩
  have HS1 := Lib.hid ((HS0.out.later hb1).nilRow 95 6 none)
  clear cR hb1 HS0
  go_wp2
  refine bodyPost_ret (v := .tuple #[.slice none 0 0, .int .i64 0, .int .i64 1]) (by simp [results, Tryz.results100]) rfl ?_
  exact ⟨none, 0, Nat.le_refl _, rfl, HS1.out⟩

set_option maxRecDepth 100000 in
set_option maxHeartbeats 1600000 in
theorem step_no (A : Option Addr) (c : Nat) (l out : List B) (o : Op) (n e : Int) (w : World) (hr : Rd w w.heap.size 6 A 8 (l.flatMap B.cells)) (hrt : Rt l) (hw : Way l o out n e) (he : e ≠ 0) :
    Calls Tryz.prog 100 #[.slice A 8 c, .agg #[.int .i64 o.kind, .int .i64 o.block, .int .i64 o.page, .int .i64 o.data]] w (StepRet w out n e) := by
  obtain ⟨rfl, rfl⟩ := way_rt hw he
  have HS0 : Hid (Sep w (w.alloc (.cells #[.int .i64 o.kind, .int .i64 o.block, .int .i64 o.page, .int .i64 o.data] 169)) [.cells w.heap.size 169 o.cells]) := Lib.hid ((Sep.nil_ w).new 169 o.cells)
  have cR := Lib.hid (right_any A 8 c l true _ (hr.later HS0.out.below) hrt.1 (by omega) (rt_true hrt))
  have cC := Lib.hid (fun W (hW : Below w.heap.size w W) => check_any A c l [] o 0 e W (hr.later hW) hrt.1 hw)
  have ht : (e != 0) = true := by simpa using he
  clear hr hrt hw he
  go_enter Tryz.func100, Tryz.ntmps100
  go_wp2_with fail
  refine cR.out.mono ?_; rintro e1 w1 ⟨rfl, hb1⟩
  have HS1 := Lib.hid (HS0.out.later hb1)
  have q0 := HS1.out.cell 0 rfl (k := 0) rfl
  have q1 := HS1.out.cell 0 rfl (k := 1) rfl
  have q2 := HS1.out.cell 0 rfl (k := 2) rfl
  have q3 := HS1.out.cell 0 rfl (k := 3) rfl
  clear cR hb1 HS0
  go_wp2_with fail
  refine (cC.out _ HS1.out.below).mono ?_; rintro e2 w2 ⟨rfl, hb2⟩
  have HS2 := Lib.hid (((HS1.out.later hb2).pick [] (by decide) (by simp)).nilRow 95 6 none)
  clear cC hb2 HS1 q0 q1 q2 q3
  go_wp2
  refine bodyPost_ret (v := .tuple #[.slice none 0 0, .int .i64 0, .int .i64 e]) (by simp [results, Tryz.results100]) rfl ?_
  exact ⟨none, 0, Nat.le_refl _, rfl, HS2.out⟩

theorem put_cells (x : B) (v : Int) {p : Nat} (hp : p < 4) (hd : x.done = (p : Int)) : ∃ y : B, y.cells = x.cells.set p (.int .i64 v) ∧ (x.put v p).cells = y.cells.set 4 (.int .i64 ((p : Int) + 1)) := by
  match p, hp with
  | 0, _ => exact ⟨{ x with a := v }, rfl, rfl⟩
  | 1, _ => exact ⟨{ x with b := v }, rfl, rfl⟩
  | 2, _ => exact ⟨{ x with c := v }, rfl, rfl⟩
  | 3, _ => exact ⟨{ x with d := v }, rfl, rfl⟩

set_option maxRecDepth 100000 in
set_option maxHeartbeats 3200000 in
theorem step_yes (A : Option Addr) (c : Nat) (l out : List B) (o : Op) (n : Int) (w : World) (hr : Rd w w.heap.size 6 A 8 (l.flatMap B.cells)) (hrt : Rt l) (hw : Way l o out n 0) :
    Calls Tryz.prog 100 #[.slice A 8 c, .agg #[.int .i64 o.kind, .int .i64 o.block, .int .i64 o.page, .int .i64 o.data]] w (StepRet w out n 0) := by
  have HS0 : Hid (Sep w (w.alloc (.cells #[.int .i64 o.kind, .int .i64 o.block, .int .i64 o.page, .int .i64 o.data] 169)) [.cells w.heap.size 169 o.cells]) := Lib.hid ((Sep.nil_ w).new 169 o.cells)
  have cR := Lib.hid (right_any A 8 c l true _ (hr.later HS0.out.below) hrt.1 (by omega) (rt_true hrt))
  have cC := Lib.hid (fun W (hW : Below w.heap.size w W) => check_any A c l out o n 0 W (hr.later hW) hrt.1 hw)
  have cL := Lib.hid (fun W (hW : Below w.heap.size w W) => clone_any A 8 c (l.flatMap B.cells) W (hr.later hW) (B.one l) (by omega) (by omega))
  have HL := Lib.hid hrt.1
  have HRT := Lib.hid hrt
  clear hr hrt
  go_enter Tryz.func100, Tryz.ntmps100
  go_wp2_with fail
  refine cR.out.mono ?_; rintro e1 w1 ⟨rfl, hb1⟩
  have HS1 := Lib.hid (HS0.out.later hb1)
  have q0 := HS1.out.cell 0 rfl (k := 0) rfl
  have q1 := HS1.out.cell 0 rfl (k := 1) rfl
  have q2 := HS1.out.cell 0 rfl (k := 2) rfl
  have q3 := HS1.out.cell 0 rfl (k := 3) rfl
  clear cR hb1 HS0
  go_wp2_with fail
  refine (cC.out _ HS1.out.below).mono ?_; rintro e2 w2 ⟨rfl, hb2⟩
  have HS2 := Lib.hid (HS1.out.later hb2)
  clear cC hb2 HS1 q0 q1 q2 q3
  go_wp2_with fail
  refine (cL.out _ HS2.out.below).mono ?_; rintro e3 w3 ⟨A', c', hc', rfl, K⟩
  have HS3 := Lib.hid (HS2.out.join K)
  clear cL K HS2
  obtain ⟨g, rfl, hg, hat⟩ := HS3.out.rowAt 1 rfl (by omega)
  have HAT := Lib.hid hat
  clear hat
  generalize w.heap.size = gb at HS3 hg ⊢
  have q0 := HS3.out.cell 0 rfl (k := 0) rfl
  have q1 := HS3.out.cell 0 rfl (k := 1) rfl
  have q2 := HS3.out.cell 0 rfl (k := 2) rfl
  have q3 := HS3.out.cell 0 rfl (k := 3) rfl
  cases hw with
  | @prog d bi p x hb hp h =>
    simp only at q0 q1 q2 q3 ⊢
    have hbi : bi < 8 := by rw [← HL.out]; exact (List.getElem?_eq_some_iff.1 hb).1
    have b0 : (0 : Int) ≤ (bi : Int) := by omega
    have b1 : (bi : Int) < 8 := by omega
    have p0 : (0 : Int) ≤ (p : Int) := by omega
    have p1 : (p : Int) < 4 := by omega
    obtain ⟨y, hy1, hy2⟩ := put_cells x d hp h
    have u0 := (HAT.out (bi * 6 + p)).2.1
    have u1 := (HAT.out (bi * 6 + p)).1 _ (flat_get B.len l bi p x hb (by omega) |>.trans (B.cell_at x hp))
    have K := Lib.hid (HS3.out.field B.len 1 rfl (by omega) hb (show p < 6 by omega) y _ hy1)
    have HB := Lib.hid hb
    have H := Lib.hid h
    have HY1 := Lib.hid hy1
    have HY2 := Lib.hid hy2
    clear hb h hy1 hy2 HS3 HAT
    go_wp2
    go_region
    have KD := Lib.hid K.out.drew
    clear u0 u1 q0 q1 q2 q3 K
    generalize (w3.setCell ⟨g, bi * 6 + p, none⟩ (.int .i64 d)).drew = w4 at KD ⊢
    have hyb : (l.set bi y)[bi]? = some y := by rw [List.getElem?_set, if_pos rfl, if_pos (by rw [HL.out]; exact hbi)]
    obtain ⟨g', hg', _, hat⟩ := KD.out.rowAt 1 rfl (by omega)
    cases hg'
    have hy4 : y.cells[4]? = some (.int .i64 (p : Int)) := by
      rw [HY1.out, List.getElem?_set, if_neg (by omega)]
      show some (Value.int .i64 x.done) = _
      rw [H.out]
    have u0 := (hat (bi * 6 + 4)).2.1
    have u1 := (hat (bi * 6 + 4)).1 _ (flat_get B.len (l.set bi y) bi 4 y hyb (by omega) |>.trans hy4)
    have K2 := Lib.hid ((KD.out.field B.len 1 rfl (by omega) hyb (show 4 < 6 by omega) (x.put d p) _ HY2.out).pick [1] (by decide) (by simp))
    clear hat KD hyb hy4
    go_wp2
    refine bodyPost_ret (v := .tuple #[.slice (some ⟨g, 0, none⟩) 8 c', .int .i64 0, .int .i64 0]) (by simp [results, Tryz.results100]) rfl ?_
    have hle : (l.set bi (x.put d p)).length = 8 := by rw [List.length_set]; exact HL.out
    refine ⟨some ⟨g, 0, none⟩, c', ?_, ?_, ?_⟩
    · rw [hle]; exact hc'
    · rw [hle]
    · rw [hle]
      have := K2.out
      rw [List.set_set, List.set_set] at this
      exact this
  | @erase d pg bi x hb h =>
    simp only at q0 q1 q2 q3 ⊢
    have hbi : bi < 8 := by rw [← HL.out]; exact (List.getElem?_eq_some_iff.1 hb).1
    have b0 : (0 : Int) ≤ (bi : Int) := by omega
    have b1 : (bi : Int) < 8 := by omega
    have e0 := (HAT.out (bi * 6)).1 _ (flat_get B.len l bi 0 x hb (by omega))
    have e1 := (HAT.out (bi * 6 + 1)).1 _ (flat_get B.len l bi 1 x hb (by omega))
    have e2 := (HAT.out (bi * 6 + 2)).1 _ (flat_get B.len l bi 2 x hb (by omega))
    have e3 := (HAT.out (bi * 6 + 3)).1 _ (flat_get B.len l bi 3 x hb (by omega))
    have e4 := (HAT.out (bi * 6 + 4)).1 _ (flat_get B.len l bi 4 x hb (by omega))
    have e5 : w3.cell? ⟨g, bi * 6 + 5, none⟩ = some (.int .i64 x.wear) := (HAT.out (bi * 6 + 5)).1 _ (flat_get B.len l bi 5 x hb (by omega))
    have u0 := (HAT.out (bi * 6)).2.1
    have u1 := (HAT.out (bi * 6 + 1)).2.1
    have u2 := (HAT.out (bi * 6 + 2)).2.1
    have u3 := (HAT.out (bi * 6 + 3)).2.1
    have u4 := (HAT.out (bi * 6 + 4)).2.1
    have u5 := (HAT.out (bi * 6 + 5)).2.1
    have K := Lib.hid ((HS3.out.elem B.len 1 rfl bi (by rw [HL.out]; exact hbi) (by omega) (.blank (x.wear + 1))).pick [1] (by decide) (by simp))
    have w0 := (HRT.out.2 x (List.mem_of_getElem? hb)).w0
    have hle : (l.set bi (.blank (x.wear + 1))).length = 8 := by rw [List.length_set]; exact HL.out
    have HLE := Lib.hid hle
    clear hb HS3 HAT hle
    obtain ⟨xa, xb, xc, xd, dn, wr'⟩ := x
    simp only at e5 K HLE h w0 ⊢
    go_wp2
    refine bodyPost_ret (v := .tuple #[.slice (some ⟨g, 0, none⟩) 8 c', .int .i64 0, .int .i64 0]) (by simp [results, Tryz.results100]) rfl ?_
    refine ⟨some ⟨g, 0, none⟩, c', ?_, ?_, ?_⟩
    · rw [HLE.out]; exact hc'
    · rw [HLE.out]
    · rw [HLE.out]; exact K.out
  | @read d bi p x hb hp h =>
    simp only at q0 q1 q2 q3 ⊢
    have hbi : bi < 8 := by rw [← HL.out]; exact (List.getElem?_eq_some_iff.1 hb).1
    have b0 : (0 : Int) ≤ (bi : Int) := by omega
    have b1 : (bi : Int) < 8 := by omega
    have p0 : (0 : Int) ≤ (p : Int) := by omega
    have p1 : (p : Int) < 4 := by omega
    have u1 := (HAT.out (bi * 6 + p)).1 _ (flat_get B.len l bi p x hb (by omega) |>.trans (B.cell_at x hp))
    have K := Lib.hid (HS3.out.pick [1] (by decide) (by simp))
    clear hb h HS3 HAT
    obtain ⟨v, hv⟩ : ∃ v, v = x.at p := ⟨_, rfl⟩
    rw [← hv] at u1
    have HV := Lib.hid hv
    clear hv
    go_wp2
    go_quiet (fail)
    generalize hxw : World.drewN w3 _ = xw
    have xh : Below w3.heap.size w3 xw := by rw [← hxw]; exact below_drewN (Below.refl _ _) _
    clear hxw
    go_wp2
    refine bodyPost_ret (v := .tuple #[.slice (some ⟨g, 0, none⟩) 8 c', .int .i64 v, .int .i64 0]) (by simp [results, Tryz.results100]) rfl ?_
    refine ⟨some ⟨g, 0, none⟩, c', ?_, ?_, ?_⟩
    · rw [HL.out]; exact hc'
    · rw [HL.out, HV.out]
    · rw [HL.out]; exact K.out.later xh
end Nd
end Go.Proofs.YtjopiepfjbnkbaaGreatDoor
