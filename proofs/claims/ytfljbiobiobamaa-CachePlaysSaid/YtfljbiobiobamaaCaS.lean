/-
  Walk of the reference's SameCached at two answers that say the same. Conditions: none beyond the theorem's own premises.
-/
import Derived.Test.YtfljbiobiobamaaCaT2
import Derived.Test.YtfljbiobiobamaaEq
namespace Go.Proofs.Ytfljbiobiobamaa
open Go.RowKit Go.Shelf
set_option linter.unusedVariables false
namespace Ca
set_option maxRecDepth 100000 in
set_option maxHeartbeats 3200000 in
theorem same_any (A1 A2 : Option Addr) (n c1 c2 f s : Nat) (st rd : List Int) (w : World) (hr1 : Rd w w.heap.size 1 A1 n (rd.flatMap icell)) (hr2 : Rd w w.heap.size 1 A2 n (rd.flatMap icell)) (hl : rd.length = n) (hn : n ≤ 5864062014806) (hst : st.length = 16) :
    Calls Try.prog 9 #[.agg (cdc (.slice A1 n c1) f s st).toArray, .agg (cdc (.slice A2 n c2) f s st).toArray] w (Ret w (.bool true)) := by
  match st, hst with
  | [x0, x1, x2, x3, x4, x5, x6, x7, x8, x9, xa, xb, xc, xd, xe, xf], _ =>
    have HR1 := Lib.hid hr1
    have HR2 := Lib.hid hr2
    have HL := Lib.hid hl
    clear hr1 hr2 hl
    go_enter Try.func9, Try.ntmps9
    go_upto_region 1 with (fail)
    have H0 := ((Sep.nil_ w).new 26 (cdc (.slice A1 n c1) f s [x0, x1, x2, x3, x4, x5, x6, x7, x8, x9, xa, xb, xc, xd, xe, xf])).new 26 (cdc (.slice A2 n c2) f s [x0, x1, x2, x3, x4, x5, x6, x7, x8, x9, xa, xb, xc, xd, xe, xf])
    rw [show (w.alloc (.cells (cdc (.slice A1 n c1) f s [x0, x1, x2, x3, x4, x5, x6, x7, x8, x9, xa, xb, xc, xd, xe, xf]).toArray 26)).heap.size = w.heap.size + 1 by simp] at H0
    have H := Lib.hid H0
    clear H0
    generalize (w.alloc (.cells (cdc (.slice A1 n c1) f s [x0, x1, x2, x3, x4, x5, x6, x7, x8, x9, xa, xb, xc, xd, xe, xf]).toArray 26)).alloc (.cells (cdc (.slice A2 n c2) f s [x0, x1, x2, x3, x4, x5, x6, x7, x8, x9, xa, xb, xc, xd, xe, xf]).toArray 26) = wo at H ⊢
    have a0 := H.out.cell 0 rfl (k := 0) rfl
    have b0 := H.out.cell 1 rfl (k := 0) rfl
    have a1 := H.out.cell 0 rfl (k := 1) rfl
    have b1 := H.out.cell 1 rfl (k := 1) rfl
    have a2 := H.out.cell 0 rfl (k := 2) rfl
    have b2 := H.out.cell 1 rfl (k := 2) rfl
    have a3 := H.out.cell 0 rfl (k := 3) rfl
    have b3 := H.out.cell 1 rfl (k := 3) rfl
    have a4 := H.out.cell 0 rfl (k := 4) rfl
    have b4 := H.out.cell 1 rfl (k := 4) rfl
    have a5 := H.out.cell 0 rfl (k := 5) rfl
    have b5 := H.out.cell 1 rfl (k := 5) rfl
    have a6 := H.out.cell 0 rfl (k := 6) rfl
    have b6 := H.out.cell 1 rfl (k := 6) rfl
    have a7 := H.out.cell 0 rfl (k := 7) rfl
    have b7 := H.out.cell 1 rfl (k := 7) rfl
    have a8 := H.out.cell 0 rfl (k := 8) rfl
    have b8 := H.out.cell 1 rfl (k := 8) rfl
    have a9 := H.out.cell 0 rfl (k := 9) rfl
    have b9 := H.out.cell 1 rfl (k := 9) rfl
    have a10 := H.out.cell 0 rfl (k := 10) rfl
    have b10 := H.out.cell 1 rfl (k := 10) rfl
    have a11 := H.out.cell 0 rfl (k := 11) rfl
    have b11 := H.out.cell 1 rfl (k := 11) rfl
    have a12 := H.out.cell 0 rfl (k := 12) rfl
    have b12 := H.out.cell 1 rfl (k := 12) rfl
    have a13 := H.out.cell 0 rfl (k := 13) rfl
    have b13 := H.out.cell 1 rfl (k := 13) rfl
    have a14 := H.out.cell 0 rfl (k := 14) rfl
    have b14 := H.out.cell 1 rfl (k := 14) rfl
    have a15 := H.out.cell 0 rfl (k := 15) rfl
    have b15 := H.out.cell 1 rfl (k := 15) rfl
    have a16 := H.out.cell 0 rfl (k := 16) rfl
    have b16 := H.out.cell 1 rfl (k := 16) rfl
    have a17 := H.out.cell 0 rfl (k := 17) rfl
    have b17 := H.out.cell 1 rfl (k := 17) rfl
    have a18 := H.out.cell 0 rfl (k := 18) rfl
    have b18 := H.out.cell 1 rfl (k := 18) rfl
    have NE : (Op.equalIn 10000 24 (.agg #[.int .i64 x0, .int .i64 x1, .int .i64 x2, .int .i64 x3, .int .i64 x4, .int .i64 x5, .int .i64 x6, .int .i64 x7, .int .i64 x8, .int .i64 x9, .int .i64 xa, .int .i64 xb, .int .i64 xc, .int .i64 xd, .int .i64 xe, .int .i64 xf]) (.agg #[.int .i64 x0, .int .i64 x1, .int .i64 x2, .int .i64 x3, .int .i64 x4, .int .i64 x5, .int .i64 x6, .int .i64 x7, .int .i64 x8, .int .i64 x9, .int .i64 xa, .int .i64 xb, .int .i64 xc, .int .i64 xd, .int .i64 xe, .int .i64 xf])).run Try.prog wo = .ok true wo := run_self _ _ _ _ (by kernel_rfl)
    go_wp2
    generalize hgb : w.heap.size = gb at H
    have HGB := Lib.hid hgb
    clear hgb a0 b0 a1 b1 a2 b2 a3 b3 a4 b4 a5 b5 a6 b6 a7 b7 a8 b8 a9 b9 a10 b10 a11 b11 a12 b12 a13 b13 a14 b14 a15 b15 a16 b16 a17 b17 a18 b18 NE
    generalize hL : cdc (.slice A1 n c1) f s [x0, x1, x2, x3, x4, x5, x6, x7, x8, x9, xa, xb, xc, xd, xe, xf] = la at H
    generalize hL2 : cdc (.slice A2 n c2) f s [x0, x1, x2, x3, x4, x5, x6, x7, x8, x9, xa, xb, xc, xd, xe, xf] = lb at H
    have HA : Hid (la[0]? = some (.slice A1 n c1)) := Lib.hid (by rw [← hL]; rfl)
    have HB : Hid (lb[0]? = some (.slice A2 n c2)) := Lib.hid (by rw [← hL2]; rfl)
    clear hL hL2
    go_loopg [37] n (fun g i wr => ∃ k : Nat, k ≤ n ∧ g = n - k ∧ i = .int .i64 k ∧ Sep w wr [.cells gb 26 la, .cells (gb + 1) 26 lb])
    case atStart => exact ⟨0, Nat.zero_le _, rfl, rfl, H.out⟩
    case round =>
      clear H
      obtain ⟨k, hk, rfl, rfl, hs⟩ := hrel
      have HS := Lib.hid hs
      have hB := hs.below
      clear hs
      by_cases hlt : k < n
      · have dA : ∀ z : LaterOf wr, z.w.cell? ⟨gb, 0, none⟩ = some (.slice A1 n c1) := fun z => z.cell (HS.out.cell 0 rfl HA.out)
        have dB : ∀ z : LaterOf wr, z.w.cell? ⟨gb + 1, 0, none⟩ = some (.slice A2 n c2) := fun z => z.cell (HS.out.cell 1 rfl HB.out)
        obtain ⟨b, off, rfl, hb, hc⟩ := HR1.out.at_ icell_len (by omega)
        obtain ⟨b', off', rfl, hb', hc'⟩ := HR2.out.at_ icell_len (by omega)
        obtain ⟨y, hy⟩ : ∃ y, rd[k]? = some y := ⟨_, List.getElem?_eq_getElem (by rw [HL.out]; exact hlt)⟩
        have d1 : ∀ z : LaterOf wr, z.w.cell? ⟨b, off + k, none⟩ = some (.int .i64 y) := fun z => z.cell ((hB.cell hb).trans (by have := hc k 0 y _ hy rfl; simpa using this))
        have d2 : ∀ z : LaterOf wr, z.w.cell? ⟨b', off' + k, none⟩ = some (.int .i64 y) := fun z => z.cell ((hB.cell hb').trans (by have := hc' k 0 y _ hy rfl; simpa using this))
        clear hc hc' hy
        have i0 : (0 : Int) ≤ (k : Int) := by omega
        have i1 : (k : Int) < (n : Int) := by omega
        go_upto_region 6 with (fail)
        refine wp_region_later (by kernel_rfl) (by kernel_rfl) ?_
        repeat (go_big_quiet_step (fail))
        refine wpQuiet_nil ?_; intro xw hw'; obtain ⟨xq, hw''⟩ := hw'; obtain ⟨xw0, xh⟩ := xq; change xw = xw0 at hw''; subst hw''
        go_wp2
        go_roundg (n - (k + 1))
        case measure => omega
        case rel => exact ⟨k + 1, by omega, rfl, by go_num, HS.out.later xh⟩
      · go_wp2
        go_ret
        exact Ret.mk rfl hB
end Ca
end Go.Proofs.Ytfljbiobiobamaa
