/-
  Paths: walks of path.Within and Both, and of the law PathMeets. Conditions: none beyond each theorem's own premises.
-/
import Derived.Test.YtelgalhkggnkbaaDoorPtJ
namespace Go.Proofs.YtelgalhkggnkbaaDoor
open Go.RowKit Go.Shelf
set_option linter.unusedVariables false
namespace Pt

theorem take_rd {w : World} {B n k : Nat} {A : Option Addr} {l : List By} (h : Rd w B 1 A n (l.flatMap sc)) (hk : k ≤ n) : Rd w B 1 A k ((l.take k).flatMap sc) := by
  have h2 := rd_upto h hk
  rwa [flat_take sc_len] at h2

set_option maxRecDepth 100000 in
theorem within_any (s top : By) (hs : s.length ≤ 1048576) (ht : top.length ≤ 1048576) (w : World) :
    Calls Tryd.prog 6 #[.string (bs s), .string (bs top)] w (Ret w (.bool ((cmn (parts s) (parts top) : Int) == ((parts top).length : Int)))) := by
  have c1 := Lib.hid (parts_any top (by omega) w)
  have c2 := Lib.hid (fun W => parts_any s (by omega) W)
  have hs1 := parts_sum s
  have hs2 := parts_sum top
  obtain ⟨x, hx⟩ : ∃ x, parts s = x := ⟨_, rfl⟩
  obtain ⟨y, hy⟩ : ∃ y, parts top = y := ⟨_, rfl⟩
  rw [hx] at c2 hs1 ⊢
  rw [hy] at c1 hs2 ⊢
  clear hx hy
  have cC := Lib.hid (fun A A' c c' (W : World) (h : Rd W W.heap.size 1 A x.length (x.flatMap sc)) (h' : Rd W W.heap.size 1 A' y.length (y.flatMap sc)) => common_any A A' x.length y.length c c' x y W h h' rfl rfl (by omega) (by omega))
  clear hs1 hs2
  generalize x.length = n at c2 cC
  generalize y.length = n' at c1 cC ⊢
  go_enter Tryd.func6, Tryd.ntmps6
  go_wp2_with fail
  refine c1.out.mono ?_; rintro en w1 ⟨A1, q1, _, rfl, hs1⟩
  have H1 := Lib.hid hs1
  clear hs1 c1
  go_wp2_with fail
  refine (c2.out w1).mono ?_; rintro en w2 ⟨A2, q2, _, rfl, hs2⟩
  have H2 := Lib.hid (H1.out.join hs2)
  clear hs2 c2 H1
  have c3 := Lib.hid (cC.out A2 A1 q2 q1 w2 (H2.out.rd 1 rfl) (H2.out.rd 0 rfl))
  clear cC
  go_wp2_with fail
  refine c3.out.mono ?_; rintro en w3 ⟨rfl, hb3⟩
  have HB := Lib.hid (H2.out.below.trans (hb3.mono H2.out.below.size))
  clear hb3 c3 H2
  go_wp2
  go_ret
  exact Ret.mk rfl HB.out

set_option maxRecDepth 100000 in
theorem both_any (a b : By) (hs : a.length ≤ 1048576) (ht : b.length ≤ 1048576) (w : World) :
    Calls Tryd.prog 7 #[.string (bs a), .string (bs b)] w (Ret w (.string (bs (ppath ((parts a).take (cmn (parts a) (parts b))))))) := by
  obtain ⟨ti, hti, t0, t1, t2⟩ := info_parts string_info
  have c1 := Lib.hid (parts_any a (by omega) w)
  have c2 := Lib.hid (fun W => parts_any b (by omega) W)
  have hs1 := parts_sum a
  have hs2 := parts_sum b
  obtain ⟨x, hx⟩ : ∃ x, parts a = x := ⟨_, rfl⟩
  obtain ⟨y, hy⟩ : ∃ y, parts b = y := ⟨_, rfl⟩
  rw [hx] at c1 hs1 ⊢
  rw [hy] at c2 hs2 ⊢
  clear hx hy
  have hc := (cmn_le x y).1
  obtain ⟨k, hk⟩ : ∃ k, cmn x y = k := ⟨_, rfl⟩
  have cC := Lib.hid (fun A A' c c' (W : World) (h : Rd W W.heap.size 1 A x.length (x.flatMap sc)) (h' : Rd W W.heap.size 1 A' y.length (y.flatMap sc)) => common_any A A' x.length y.length c c' x y W h h' rfl rfl (by omega) (by omega))
  have cW := Lib.hid (fun A c (W : World) (h : Rd W W.heap.size 1 A x.length (x.flatMap sc)) (hkc : k ≤ c) => whole_any A k c (x.take k) W (take_rd h (by omega)) (by rw [List.length_take]; omega) hkc (by have := sumL_take x k; rw [List.length_take]; omega))
  rw [hk] at cC hc ⊢
  clear hs1 hs2 hk
  generalize x.length = n at c1 cC cW hc
  generalize y.length = n' at c2 cC
  go_enter Tryd.func7, Tryd.ntmps7
  go_wp2_with fail
  refine c1.out.mono ?_; rintro en w1 ⟨A1, q1, hq1, rfl, hs1⟩
  have H1 := Lib.hid hs1
  clear hs1 c1
  go_wp2_with fail
  refine (c2.out w1).mono ?_; rintro en w2 ⟨A2, q2, _, rfl, hs2⟩
  have H2 := Lib.hid (H1.out.join hs2)
  clear hs2 c2 H1
  have c3 := Lib.hid (cC.out A1 A2 q1 q2 w2 (H2.out.rd 0 rfl) (H2.out.rd 1 rfl))
  clear cC
  go_wp2_with fail
  refine c3.out.mono ?_; rintro en w3 ⟨rfl, hb3⟩
  have H3 := Lib.hid (H2.out.later hb3)
  clear hb3 c3 H2
  have c4 := Lib.hid (cW.out A1 q1 w3 (H3.out.rd 0 rfl) (by omega))
  have hs1 : ∀ W, (Instr.slice 22 (.slice A1 n q1) none (some (.int .i64 (k : Int))) none).run Tryd.prog W = .ok (.slice A1 k q1) W := fun W => upto_run Tryd.underlying22 (size_of_info hti t1) _ n q1 k (by omega) W
  clear cW
  go_wp2_with fail
  refine c4.out.mono ?_; rintro en w4 ⟨rfl, hb4⟩
  have HB := Lib.hid (H3.out.below.trans (hb4.mono H3.out.below.size))
  go_wp2
  go_ret
  exact Ret.mk rfl HB.out

set_option maxRecDepth 100000 in
set_option maxHeartbeats 3200000 in
theorem pathMeets_walk (a b : By) (hs : a.length ≤ 1048576) (ht : b.length ≤ 1048576) (w : World) :
    Calls Tryd.prog 3 #[.string (bs a), .string (bs b)] w (Ret w (.bool true)) := by
  obtain ⟨ti, hti, t0, t1, t2⟩ := info_parts string_info
  have c1 := Lib.hid (pparts_any a (by omega) w)
  have c2 := Lib.hid (fun W => pparts_any b (by omega) W)
  have cW := Lib.hid (fun W => within_any a b hs ht W)
  have cB := Lib.hid (fun W => both_any a b hs ht W)
  have hs1 := parts_sum a
  have hs2 := parts_sum b
  obtain ⟨x, hx⟩ : ∃ x, parts a = x := ⟨_, rfl⟩
  obtain ⟨y, hy⟩ : ∃ y, parts b = y := ⟨_, rfl⟩
  rw [hx] at c1 hs1
  rw [hy] at c2 hs2
  rw [hx, hy] at cW cB
  clear hx hy
  have hc := cmn_le x y
  obtain ⟨kc, hkc⟩ : ∃ k, cmn x y = k := ⟨_, rfl⟩
  have cP := Lib.hid (fun A c (W : World) (h : Rd W W.heap.size 1 A x.length (x.flatMap sc)) => ppath_any A kc c (x.take kc) W (take_rd h (by omega)) (by rw [List.length_take]; omega) (by have := sumL_take x kc; rw [List.length_take]; omega))
  obtain ⟨n, hn⟩ : ∃ n, x.length = n := ⟨_, rfl⟩
  obtain ⟨n', hn'⟩ : ∃ n, y.length = n := ⟨_, rfl⟩
  obtain ⟨wb, hwb⟩ : ∃ wb : Bool, ((kc : Int) == (n' : Int)) = wb := ⟨_, rfl⟩
  have HL := Lib.hid hn
  have HL' := Lib.hid hn'
  have HKC := Lib.hid hkc
  rw [hn] at c1 cP hc hs1
  rw [hn'] at c2 hc cW hs2
  rw [hkc] at cW cB hc
  rw [hwb] at cW
  have hn2 : n ≤ 1048577 := by omega
  have hn3 : n' ≤ 1048577 := by omega
  clear hs1 hs2 hn hn' hkc
  go_enter Tryd.func3, Tryd.ntmps3
  go_wp2_with fail
  refine c1.out.mono ?_; rintro en w1 ⟨A1, q1, hq1, rfl, hs1⟩
  have H1 := Lib.hid hs1
  clear hs1 c1
  go_wp2_with fail
  refine (c2.out w1).mono ?_; rintro en w2 ⟨A2, q2, hq2, rfl, hs2⟩
  have H2 := Lib.hid (H1.out.join hs2)
  clear hs2 c2 H1
  have HR := Lib.hid (H2.out.rd 0 rfl)
  have HR' := Lib.hid (H2.out.rd 1 rfl)
  go_wp2
  go_loopg [7] n (fun g i wr => ∃ k : Nat, k ≤ kc ∧ g = n - k ∧ i = .int .i64 k ∧ Below w2.heap.size w2 wr)
  case atStart => exact ⟨0, Nat.zero_le _, rfl, rfl, Below.refl _ _⟩
  case round =>
    obtain ⟨k, hk, rfl, rfl, hB⟩ := hrel
    have HB := Lib.hid hB
    have hk1 : k ≤ n := by omega
    clear hB
    by_cases hgo : k < n ∧ k < n' ∧ x[k]? = y[k]?
    · obtain ⟨hx1, hx2, hxy⟩ := hgo
      obtain ⟨u, hu⟩ : ∃ u, x[k]? = some u := ⟨_, List.getElem?_eq_getElem (by rw [HL.out]; exact hx1)⟩
      have hv : y[k]? = some u := by rw [← hxy, hu]
      obtain ⟨b1, off, rfl, hb, hc1⟩ := HR.out.at_ sc_len (by omega)
      obtain ⟨b2, off', rfl, hb', hc2⟩ := HR'.out.at_ sc_len (by omega)
      have d1 : wr.cell? ⟨b1, off + k, none⟩ = some (.string (bs u)) := (HB.out.cell (p := ⟨b1, off + k, none⟩) hb).trans (by simpa using hc1 k 0 u _ hu rfl)
      have d2 : wr.cell? ⟨b2, off' + k, none⟩ = some (.string (bs u)) := (HB.out.cell (p := ⟨b2, off' + k, none⟩) hb').trans (by simpa using hc2 k 0 u _ hv rfl)
      have HS : Hid (k + 1 ≤ kc) := Lib.hid (by
        have h := (cmn_step x y k u u (by rw [HKC.out]; exact hk) hu hv).2 rfl
        rwa [HKC.out] at h)
      have i0 : (0 : Int) ≤ (k : Int) := by omega
      have i1 : (k : Int) < (n : Int) := by omega
      have i2 : (k : Int) < (n' : Int) := by omega
      have heb : ((bs u).toList == (bs u).toList) = true := by simp
      clear hc1 hc2 hu hv hxy
      go_wp2
      go_quiet (fail)
      go_wp2
      generalize hxw : World.drewN wr _ = xw
      have xh : Below wr.heap.size wr xw := by rw [← hxw]; exact below_drewN (Below.refl _ _) _
      clear hxw
      go_roundg (n - (k + 1))
      case measure => omega
      case rel => exact ⟨k + 1, HS.out, rfl, by go_num, HB.out.trans (xh.mono HB.out.size)⟩
    · have hkk : k = kc := by
        rw [← HKC.out]
        exact cmn_end x y k (by rw [HKC.out]; exact hk) (fun h => hgo (by rw [← HL.out, ← HL'.out]; exact h))
      subst hkk
      have hsl : ∀ A W, (Instr.slice 22 (.slice A n q1) none (some (.int .i64 (k : Int))) none).run Tryd.prog W = .ok (.slice A k q1) W := fun A W => upto_run Tryd.underlying22 (size_of_info hti t1) A n q1 k (by omega) W
      have HSL := Lib.hid hsl
      clear hsl
      by_cases hx1 : k < n
      · by_cases hx2 : k < n'
        · obtain ⟨u, hu⟩ : ∃ u, x[k]? = some u := ⟨_, List.getElem?_eq_getElem (by rw [HL.out]; exact hx1)⟩
          obtain ⟨v, hv⟩ : ∃ v, y[k]? = some v := ⟨_, List.getElem?_eq_getElem (by rw [HL'.out]; exact hx2)⟩
          have huv : u ≠ v := fun e => hgo ⟨hx1, hx2, by rw [hu, hv, e]⟩
          obtain ⟨b1, off, rfl, hb, hc1⟩ := HR.out.at_ sc_len (by omega)
          obtain ⟨b2, off', rfl, hb', hc2⟩ := HR'.out.at_ sc_len (by omega)
          have d1 : wr.cell? ⟨b1, off + k, none⟩ = some (.string (bs u)) := (HB.out.cell (p := ⟨b1, off + k, none⟩) hb).trans (by simpa using hc1 k 0 u _ hu rfl)
          have d2 : wr.cell? ⟨b2, off' + k, none⟩ = some (.string (bs v)) := (HB.out.cell (p := ⟨b2, off' + k, none⟩) hb').trans (by simpa using hc2 k 0 v _ hv rfl)
          have i0 : (0 : Int) ≤ (k : Int) := by omega
          have i1 : (k : Int) < (n : Int) := by omega
          have i2 : (k : Int) < (n' : Int) := by omega
          have heb : ((bs u).toList == (bs v).toList) = false := bs_ne huv
          clear hc1 hc2 hu hv huv hgo
          go_wp2
          go_quiet (fail)
          go_upto_region 5 with (fail)
          generalize hxw : World.drewN wr _ = w4
          have xh : Below wr.heap.size wr w4 := by rw [← hxw]; exact below_drewN (Below.refl _ _) _
          clear hxw
          have HB4 := Lib.hid (HB.out.trans (xh.mono HB.out.size))
          have hsl := HSL.out
          have dW := Lib.hid (fun z : LaterOf w4 => cW.out z.w)
          have dB := Lib.hid (fun z : LaterOf w4 => cB.out z.w)
          have dP := Lib.hid (fun z : LaterOf w4 => cP.out _ q1 z.w (HR.out.later (HB4.out.trans (z.h.mono HB4.out.size))))
          have zb : (wb == wb) = true := by simp
          clear xh HB HSL
          refine wp_region_later (by kernel_rfl) (by kernel_rfl) ?_
          repeat (go_big_quiet_step (first | with_reducible exact Calls.later (dW.out _) | with_reducible exact Calls.later (dB.out _) | with_reducible exact Calls.later (dP.out _)))
          refine wpQuiet_nil ?_; intro xw hw'; obtain ⟨xq, hw''⟩ := hw'; obtain ⟨xw0, xh⟩ := xq; change xw = xw0 at hw''; subst hw''
          have HF := Lib.hid (HB4.out.trans (xh.mono HB4.out.size))
          go_wp2
          go_ret
          exact Ret.mk rfl (H2.out.below.trans (HF.out.mono H2.out.below.size))
        · clear hgo
          go_wp2
          go_quiet (fail)
          go_upto_region 5 with (fail)
          generalize hxw : World.drewN wr _ = w4
          have xh : Below wr.heap.size wr w4 := by rw [← hxw]; exact below_drewN (Below.refl _ _) _
          clear hxw
          have HB4 := Lib.hid (HB.out.trans (xh.mono HB.out.size))
          have hsl := HSL.out
          have dW := Lib.hid (fun z : LaterOf w4 => cW.out z.w)
          have dB := Lib.hid (fun z : LaterOf w4 => cB.out z.w)
          have dP := Lib.hid (fun z : LaterOf w4 => cP.out _ q1 z.w (HR.out.later (HB4.out.trans (z.h.mono HB4.out.size))))
          have zb : (wb == wb) = true := by simp
          clear xh HB HSL
          refine wp_region_later (by kernel_rfl) (by kernel_rfl) ?_
          repeat (go_big_quiet_step (first | with_reducible exact Calls.later (dW.out _) | with_reducible exact Calls.later (dB.out _) | with_reducible exact Calls.later (dP.out _)))
          refine wpQuiet_nil ?_; intro xw hw'; obtain ⟨xq, hw''⟩ := hw'; obtain ⟨xw0, xh⟩ := xq; change xw = xw0 at hw''; subst hw''
          have HF := Lib.hid (HB4.out.trans (xh.mono HB4.out.size))
          go_wp2
          go_ret
          exact Ret.mk rfl (H2.out.below.trans (HF.out.mono H2.out.below.size))
      · clear hgo
        go_wp2
        go_quiet (fail)
        go_upto_region 5 with (fail)
        generalize hxw : World.drewN wr _ = w4
        have xh : Below wr.heap.size wr w4 := by rw [← hxw]; exact below_drewN (Below.refl _ _) _
        clear hxw
        have HB4 := Lib.hid (HB.out.trans (xh.mono HB.out.size))
        have hsl := HSL.out
        have dW := Lib.hid (fun z : LaterOf w4 => cW.out z.w)
        have dB := Lib.hid (fun z : LaterOf w4 => cB.out z.w)
        have dP := Lib.hid (fun z : LaterOf w4 => cP.out _ q1 z.w (HR.out.later (HB4.out.trans (z.h.mono HB4.out.size))))
        have zb : (wb == wb) = true := by simp
        clear xh HB HSL
        refine wp_region_later (by kernel_rfl) (by kernel_rfl) ?_
        repeat (go_big_quiet_step (first | with_reducible exact Calls.later (dW.out _) | with_reducible exact Calls.later (dB.out _) | with_reducible exact Calls.later (dP.out _)))
        refine wpQuiet_nil ?_; intro xw hw'; obtain ⟨xq, hw''⟩ := hw'; obtain ⟨xw0, xh⟩ := xq; change xw = xw0 at hw''; subst hw''
        have HF := Lib.hid (HB4.out.trans (xh.mono HB4.out.size))
        go_wp2
        go_ret
        exact Ret.mk rfl (H2.out.below.trans (HF.out.mono H2.out.below.size))
end Pt
end Go.Proofs.YtelgalhkggnkbaaDoor
