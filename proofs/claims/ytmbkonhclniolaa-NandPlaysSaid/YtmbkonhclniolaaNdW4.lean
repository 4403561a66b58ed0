/-
  Walk of the reference's DStep. Conditions: none.
-/
import Derived.Test.YtmbkonhclniolaaNdW3
namespace Go.Proofs.Ytmbkonhclniolaa
open Go.RowKit
set_option linter.unusedVariables false
namespace Nd

set_option maxRecDepth 100000 in
set_option maxHeartbeats 1600000 in
theorem dstep_bad (A : Option Addr) (n c : Nat) (l : List B) (o : Op) (w : World) (hr : Rd w w.heap.size 6 A n (l.flatMap B.cells)) (hl : l.length = n) (hn : n ≤ 9223372036854775807) (hbad : ¬ Rt l) :
    Calls Try.prog 10 #[.slice A n c, .agg #[.int .i64 o.kind, .int .i64 o.block, .int .i64 o.page, .int .i64 o.data]] w (StepRet w [] 0 1) := by
  have HS0 : Hid (Sep w (w.alloc (.cells #[.int .i64 o.kind, .int .i64 o.block, .int .i64 o.page, .int .i64 o.data] 24)) []) := Lib.hid ((Sep.nil_ w).alloc _)
  have cR := Lib.hid (dright_any A n c l false _ (hr.later HS0.out.below) hl hn (rt_false hbad))
  clear hr hl hbad
  rcases (show o.page < 0 ∨ (0 ≤ o.page ∧ o.page < 4) ∨ (0 ≤ o.page ∧ 4 ≤ o.page) by omega) with h1 | ⟨h1, h2⟩ | ⟨h1, h2⟩
  all_goals
      go_enter Try.func10, Try.ntmps10
      go_wp2_with fail
      refine cR.out.mono ?_; rintro e1 w1 ⟨rfl, hb1⟩
      have HS1 := Lib.hid ((HS0.out.later hb1).nilRow 31 6 none)
      clear cR hb1 HS0
      go_wp2
      refine bodyPost_ret (v := .tuple #[.slice none 0 0, .int .i64 0, .int .i64 1]) (by simp [results, Try.results10]) rfl ?_
      exact ⟨none, 0, Nat.le_refl _, rfl, HS1.out⟩

set_option maxRecDepth 100000 in
set_option maxHeartbeats 3200000 in
theorem dstep_no (A : Option Addr) (c : Nat) (l out : List B) (o : Op) (n e : Int) (w : World) (hr : Rd w w.heap.size 6 A 8 (l.flatMap B.cells)) (hrt : Rt l) (hw : Way l o out n e) (he : e ≠ 0) :
    Calls Try.prog 10 #[.slice A 8 c, .agg #[.int .i64 o.kind, .int .i64 o.block, .int .i64 o.page, .int .i64 o.data]] w (StepRet w out n e) := by
  have HS0 : Hid (Sep w (w.alloc (.cells #[.int .i64 o.kind, .int .i64 o.block, .int .i64 o.page, .int .i64 o.data] 24)) [.cells w.heap.size 24 o.cells]) := Lib.hid ((Sep.nil_ w).new 24 o.cells)
  have cR := Lib.hid (dright_any A 8 c l true _ (hr.later HS0.out.below) hrt.1 (by omega) (rt_true hrt))
  have HR := Lib.hid hr
  have HRT := Lib.hid hrt
  clear hr hrt
  cases hw with
  | kind h =>
    obtain ⟨k, bk, pg, d⟩ := o
    simp only at h HS0 cR ⊢
    have k1 : (k != 1) = true := by simp; omega
    have k2 : (k != 2) = true := by simp; omega
    have k3 : (k != 3) = true := by simp; omega
    clear h he
    rcases (show pg < 0 ∨ (0 ≤ pg ∧ pg < 4) ∨ (0 ≤ pg ∧ 4 ≤ pg) by omega) with h1 | ⟨h1, h2⟩ | ⟨h1, h2⟩
    all_goals go_enter Try.func10, Try.ntmps10
              go_wp2_with fail
              refine cR.out.mono ?_; rintro e1 w1 ⟨rfl, hb1⟩
              have HS1 := Lib.hid (HS0.out.later hb1)
              have q0 := HS1.out.cell 0 rfl (k := 0) rfl
              have q1 := HS1.out.cell 0 rfl (k := 1) rfl
              have q2 := HS1.out.cell 0 rfl (k := 2) rfl
              have HS2 := Lib.hid ((HS1.out.pick [] (by decide) (by simp)).nilRow 31 6 none)
              clear cR hb1 HS0
              go_wp2
              refine bodyPost_ret (v := .tuple #[.slice none 0 0, .int .i64 0, .int .i64 5]) (by simp [results, Try.results10]) rfl ?_
              exact ⟨none, 0, Nat.le_refl _, rfl, HS2.out⟩
  | blk h0 h1 h =>
    obtain ⟨k, bk, pg, d⟩ := o
    simp only at h h0 h1 HS0 cR ⊢
    clear he
    have hk : k = 1 ∨ k = 2 ∨ k = 3 := by omega
    clear h0 h1
    rcases hk with rfl | rfl | rfl
    all_goals
      rcases h with h | h
      all_goals
        rcases (show pg < 0 ∨ (0 ≤ pg ∧ pg < 4) ∨ (0 ≤ pg ∧ 4 ≤ pg) by omega) with h1 | ⟨h1, h2⟩ | ⟨h1, h2⟩
        all_goals go_enter Try.func10, Try.ntmps10
                  go_wp2_with fail
                  refine cR.out.mono ?_; rintro e1 w1 ⟨rfl, hb1⟩
                  have HS1 := Lib.hid (HS0.out.later hb1)
                  have q0 := HS1.out.cell 0 rfl (k := 0) rfl
                  have q1 := HS1.out.cell 0 rfl (k := 1) rfl
                  have q2 := HS1.out.cell 0 rfl (k := 2) rfl
                  have HS2 := Lib.hid ((HS1.out.pick [] (by decide) (by simp)).nilRow 31 6 none)
                  clear cR hb1 HS0
                  go_wp2
                  refine bodyPost_ret (v := .tuple #[.slice none 0 0, .int .i64 0, .int .i64 2]) (by simp [results, Try.results10]) rfl ?_
                  exact ⟨none, 0, Nat.le_refl _, rfl, HS2.out⟩
  | @page k p d bi h0 hb h =>
    simp only at HS0 cR ⊢
    clear he
    have b0 : (0 : Int) ≤ (bi : Int) := by omega
    have b1 : ¬ (7 : Int) < (bi : Int) := by omega
    rcases h0 with rfl | rfl
    all_goals
      rcases h with h | h
      · go_enter Try.func10, Try.ntmps10
        go_wp2_with fail
        refine cR.out.mono ?_; rintro e1 w1 ⟨rfl, hb1⟩
        have HS1 := Lib.hid (HS0.out.later hb1)
        have q0 := HS1.out.cell 0 rfl (k := 0) rfl
        have q1 := HS1.out.cell 0 rfl (k := 1) rfl
        have q2 := HS1.out.cell 0 rfl (k := 2) rfl
        have HS2 := Lib.hid ((HS1.out.pick [] (by decide) (by simp)).nilRow 31 6 none)
        clear cR hb1 HS0
        go_wp2
        refine bodyPost_ret (v := .tuple #[.slice none 0 0, .int .i64 0, .int .i64 2]) (by simp [results, Try.results10]) rfl ?_
        exact ⟨none, 0, Nat.le_refl _, rfl, HS2.out⟩
      · have hd : decide (p < 4) = false := by simp; omega
        have hp0 : 0 ≤ p := by omega
        go_enter Try.func10, Try.ntmps10
        go_wp2_with fail
        refine cR.out.mono ?_; rintro e1 w1 ⟨rfl, hb1⟩
        have HS1 := Lib.hid (HS0.out.later hb1)
        have q0 := HS1.out.cell 0 rfl (k := 0) rfl
        have q1 := HS1.out.cell 0 rfl (k := 1) rfl
        have q2 := HS1.out.cell 0 rfl (k := 2) rfl
        have HS2 := Lib.hid ((HS1.out.pick [] (by decide) (by simp)).nilRow 31 6 none)
        clear cR hb1 HS0
        go_wp2
        refine bodyPost_ret (v := .tuple #[.slice none 0 0, .int .i64 0, .int .i64 2]) (by simp [results, Try.results10]) rfl ?_
        exact ⟨none, 0, Nat.le_refl _, rfl, HS2.out⟩
  | @held d bi p x hb hp h =>
    have t0 := h
    have p4 : (p : Int) < 4 := by omega
    simp only at HS0 cR ⊢
    clear he
    have hbi : bi < 8 := by have := (List.getElem?_eq_some_iff.1 hb).1; have := HRT.out.1; omega
    obtain ⟨b, off, rfl, hbb, hc⟩ := HR.out.at_ B.len (by omega)
    have b0 : (0 : Int) ≤ (bi : Int) := by omega
    have b1 : ¬ (7 : Int) < (bi : Int) := by omega
    have b2 : (bi : Int) < 8 := by omega
    have p0 : (0 : Int) ≤ (p : Int) := by omega
    have p1 : (p : Int) < 8 := by omega
    go_enter Try.func10, Try.ntmps10
    go_wp2_with fail
    refine cR.out.mono ?_; rintro e1 w1 ⟨rfl, hb1⟩
    have HS1 := Lib.hid (HS0.out.later hb1)
    have q0 := HS1.out.cell 0 rfl (k := 0) rfl
    have q1 := HS1.out.cell 0 rfl (k := 1) rfl
    have q2 := HS1.out.cell 0 rfl (k := 2) rfl
    obtain ⟨e0, e1, e2, e3, e4, e5⟩ := B.facts hbb HS1.out.below hc hb
    have HS2 := Lib.hid ((HS1.out.pick [] (by decide) (by simp)).nilRow 31 6 none)
    clear cR hb1 HS0 hc hb
    obtain ⟨xa, xb, xc, xd, dn, wr'⟩ := x
    simp only at e0 e1 e2 e3 e4 e5 t0
    try simp only at t1
    go_wp2
    go_quiet (fail)
    go_wp2
    refine bodyPost_ret (v := .tuple #[.slice none 0 0, .int .i64 0, .int .i64 6]) (by simp [results, Try.results10]) rfl ?_
    refine ⟨none, 0, Nat.le_refl _, rfl, HS2.out.later ?_⟩
    first | exact Below.refl _ _ | exact below_drewN (Below.refl _ _) _ | exact below_drewN (below_drewN (Below.refl _ _) _) _
  | @none1 d bi p x hb hp h =>
    have t0 : ¬ (p : Int) < x.done := by omega
    have t1 : ((p : Int) != x.done) = true := by simp; omega
    have p4 : (p : Int) < 4 := by omega
    simp only at HS0 cR ⊢
    clear he
    have hbi : bi < 8 := by have := (List.getElem?_eq_some_iff.1 hb).1; have := HRT.out.1; omega
    obtain ⟨b, off, rfl, hbb, hc⟩ := HR.out.at_ B.len (by omega)
    have b0 : (0 : Int) ≤ (bi : Int) := by omega
    have b1 : ¬ (7 : Int) < (bi : Int) := by omega
    have b2 : (bi : Int) < 8 := by omega
    have p0 : (0 : Int) ≤ (p : Int) := by omega
    have p1 : (p : Int) < 8 := by omega
    go_enter Try.func10, Try.ntmps10
    go_wp2_with fail
    refine cR.out.mono ?_; rintro e1 w1 ⟨rfl, hb1⟩
    have HS1 := Lib.hid (HS0.out.later hb1)
    have q0 := HS1.out.cell 0 rfl (k := 0) rfl
    have q1 := HS1.out.cell 0 rfl (k := 1) rfl
    have q2 := HS1.out.cell 0 rfl (k := 2) rfl
    obtain ⟨e0, e1, e2, e3, e4, e5⟩ := B.facts hbb HS1.out.below hc hb
    have HS2 := Lib.hid ((HS1.out.pick [] (by decide) (by simp)).nilRow 31 6 none)
    clear cR hb1 HS0 hc hb
    obtain ⟨xa, xb, xc, xd, dn, wr'⟩ := x
    simp only at e0 e1 e2 e3 e4 e5 t0
    try simp only at t1
    go_wp2
    go_quiet (fail)
    go_wp2
    go_quiet (fail)
    go_wp2
    refine bodyPost_ret (v := .tuple #[.slice none 0 0, .int .i64 0, .int .i64 3]) (by simp [results, Try.results10]) rfl ?_
    refine ⟨none, 0, Nat.le_refl _, rfl, HS2.out.later ?_⟩
    first | exact Below.refl _ _ | exact below_drewN (Below.refl _ _) _ | exact below_drewN (below_drewN (Below.refl _ _) _) _
  | @none3 d bi p x hb hp h =>
    have t0 := h
    have p4 : (p : Int) < 4 := by omega
    simp only at HS0 cR ⊢
    clear he
    have hbi : bi < 8 := by have := (List.getElem?_eq_some_iff.1 hb).1; have := HRT.out.1; omega
    obtain ⟨b, off, rfl, hbb, hc⟩ := HR.out.at_ B.len (by omega)
    have b0 : (0 : Int) ≤ (bi : Int) := by omega
    have b1 : ¬ (7 : Int) < (bi : Int) := by omega
    have b2 : (bi : Int) < 8 := by omega
    have p0 : (0 : Int) ≤ (p : Int) := by omega
    have p1 : (p : Int) < 8 := by omega
    go_enter Try.func10, Try.ntmps10
    go_wp2_with fail
    refine cR.out.mono ?_; rintro e1 w1 ⟨rfl, hb1⟩
    have HS1 := Lib.hid (HS0.out.later hb1)
    have q0 := HS1.out.cell 0 rfl (k := 0) rfl
    have q1 := HS1.out.cell 0 rfl (k := 1) rfl
    have q2 := HS1.out.cell 0 rfl (k := 2) rfl
    obtain ⟨e0, e1, e2, e3, e4, e5⟩ := B.facts hbb HS1.out.below hc hb
    have HS2 := Lib.hid ((HS1.out.pick [] (by decide) (by simp)).nilRow 31 6 none)
    clear cR hb1 HS0 hc hb
    obtain ⟨xa, xb, xc, xd, dn, wr'⟩ := x
    simp only at e0 e1 e2 e3 e4 e5 t0
    try simp only at t1
    go_wp2
    go_quiet (fail)
    go_wp2
    go_quiet (fail)
    go_wp2
    go_quiet (fail)
    go_wp2
    refine bodyPost_ret (v := .tuple #[.slice none 0 0, .int .i64 0, .int .i64 3]) (by simp [results, Try.results10]) rfl ?_
    refine ⟨none, 0, Nat.le_refl _, rfl, HS2.out.later ?_⟩
    first | exact Below.refl _ _ | exact below_drewN (Below.refl _ _) _ | exact below_drewN (below_drewN (Below.refl _ _) _) _
  | @dead d pg bi x hb h =>
    have t0 : (1048576 : Int) ≤ x.wear := by omega
    clear h
    rcases (show pg < 0 ∨ (0 ≤ pg ∧ pg < 4) ∨ (0 ≤ pg ∧ 4 ≤ pg) by omega) with h1 | ⟨h1, h2⟩ | ⟨h1, h2⟩
    all_goals simp only at HS0 cR ⊢
              clear he
              have hbi : bi < 8 := by have := (List.getElem?_eq_some_iff.1 hb).1; have := HRT.out.1; omega
              obtain ⟨b, off, rfl, hbb, hc⟩ := HR.out.at_ B.len (by omega)
              have b0 : (0 : Int) ≤ (bi : Int) := by omega
              have b1 : ¬ (7 : Int) < (bi : Int) := by omega
              have b2 : (bi : Int) < 8 := by omega
              have p0 : (0 : Int) ≤ (bi : Int) := by omega
              have p1 : (bi : Int) < 8 := by omega
              go_enter Try.func10, Try.ntmps10
              go_wp2_with fail
              refine cR.out.mono ?_; rintro e1 w1 ⟨rfl, hb1⟩
              have HS1 := Lib.hid (HS0.out.later hb1)
              have q0 := HS1.out.cell 0 rfl (k := 0) rfl
              have q1 := HS1.out.cell 0 rfl (k := 1) rfl
              have q2 := HS1.out.cell 0 rfl (k := 2) rfl
              obtain ⟨e0, e1, e2, e3, e4, e5⟩ := B.facts hbb HS1.out.below hc hb
              have HS2 := Lib.hid ((HS1.out.pick [] (by decide) (by simp)).nilRow 31 6 none)
              clear cR hb1 HS0 hc hb
              obtain ⟨xa, xb, xc, xd, dn, wr'⟩ := x
              simp only at e0 e1 e2 e3 e4 e5 t0
              try simp only at t1
              go_wp2
              skip
              go_wp2
              refine bodyPost_ret (v := .tuple #[.slice none 0 0, .int .i64 0, .int .i64 8]) (by simp [results, Try.results10]) rfl ?_
              refine ⟨none, 0, Nat.le_refl _, rfl, HS2.out.later ?_⟩
              first | exact Below.refl _ _ | exact below_drewN (Below.refl _ _) _ | exact below_drewN (below_drewN (Below.refl _ _) _) _
  | @prog d bi p x hb hp h => exact absurd rfl he
  | @erase d pg bi x hb h => exact absurd rfl he
  | @read d bi p x hb hp h => exact absurd rfl he
end Nd
end Go.Proofs.Ytmbkonhclniolaa
