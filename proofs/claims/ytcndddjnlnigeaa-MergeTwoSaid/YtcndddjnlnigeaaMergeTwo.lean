/-
  MergeTwo: merge.Two, Last and Put answer as the reference does, for every two tables and every cell. Conditions: none.
-/
import Derived.Test.YtcndddjnlnigeaaMrgT5
import Derived.Test.YtcndddjnlnigeaaParse3
namespace Go.Proofs.Ytcndddjnlnigeaa
open Go.ChangeShapes Go.WideShapes Go.ChangeAt Go.RowKit
set_option linter.unusedVariables false
namespace Mrg

theorem lastC_len (l : List C) : (lastC l).length ≤ l.length := List.length_filter_le _ _
set_option maxRecDepth 100000 in
set_option maxHeartbeats 3200000 in
theorem mergeTwo_walk (A1 A2 : Option Addr) (n1 n2 c1 c2 : Nat) (xs ys : List C) (c : C) (w : World) (hr1 : Rd w w.heap.size 3 A1 n1 (xs.flatMap C.cells)) (hl1 : xs.length = n1) (hc1 : n1 ≤ c1) (hm1 : n1 ≤ 9223372036854775807)
    (hr2 : Rd w w.heap.size 3 A2 n2 (ys.flatMap C.cells)) (hl2 : ys.length = n2) (hc2 : n2 ≤ c2) (hm2 : n2 ≤ 9223372036854775807) :
    Calls Try.prog 5 #[.slice A1 n1 c1, .slice A2 n2 c2, .agg #[.int .i64 c.key, .int .i64 c.data, .bool c.gone]] w (Ret w (.bool true)) := by
  obtain ⟨ti, hti, t0, t1, t2⟩ := info_parts cell_info
  obtain ⟨⟨pl, pe⟩, hp, HP⟩ := two_both xs ys
  obtain ⟨⟨ql, qe⟩, hq, HQ⟩ := two_both [c] xs
  simp only at hp hq
  have kR1 := Lib.hid (fun W (hW : Below w.heap.size w W) => hr1.later hW)
  have cP := Lib.hid (fun W (hW : Below w.heap.size w W) => HP A1 A2 n1 n2 c1 c2 W (hr1.later hW) hl1 hc1 hm1 (hr2.later hW) hl2 hc2 hm2)
  have cQ := Lib.hid (fun A c' W (hW : Below w.heap.size w W) (h1 : 1 ≤ c') (hR : Rd W W.heap.size 3 A 1 (([c] : List C).flatMap C.cells)) => HQ A A1 1 n1 c' c1 W hR rfl h1 (by omega) (hr1.later hW) hl1 hc1 hm1)
  have cU := Lib.hid (fun W (hW : Below w.heap.size w W) => put_any A1 n1 c1 xs c (ql, qe) W (hr1.later hW) (fun A' c' W' h1 hR hR' => (HQ A' A1 1 n1 c' c1 W' hR rfl h1 (by omega) hR' hl1 hc1 hm1).1))
  have HR1 := Lib.hid hr1
  have HL1 := Lib.hid hl1
  have cL : ∃ p : List C × Int, Hid ((Rt xs ∧ p = (lastC xs, 0)) ∨ (¬ Rt xs ∧ p = ([], 1))) ∧ p.1.length ≤ n1 ∧ Hid (∀ W, Below w.heap.size w W → Calls Try.prog 21 #[.slice A1 n1 c1] W (TwoRet W p)) := by
    by_cases h : Rt xs
    · exact ⟨_, Lib.hid (.inl ⟨h, rfl⟩), by rw [← hl1]; exact lastC_len xs, Lib.hid fun W hW => last_any A1 n1 c1 xs W (hr1.later hW) hl1 h⟩
    · exact ⟨_, Lib.hid (.inr ⟨h, rfl⟩), by simp, Lib.hid fun W hW => last_bad A1 n1 c1 xs W (hr1.later hW) hl1 hm1 h⟩
  obtain ⟨⟨ll, le⟩, HLL, hll, cL⟩ := cL
  simp only at hll
  have cZ : ∃ b : Bool, Hid (b = true ↔ Rt xs) ∧ Hid (∀ W, Below w.heap.size w W → Calls Try.prog 23 #[.slice A1 n1 c1] W (Ret W (.bool b))) := by
    by_cases h : Rt xs
    · exact ⟨true, Lib.hid (rt_iff_true h), Lib.hid fun W hW => zright_is A1 n1 c1 xs true W (hr1.later hW) hl1 hm1 (rt_iff_true h)⟩
    · exact ⟨false, Lib.hid (rt_iff_false h), Lib.hid fun W hW => zright_is A1 n1 c1 xs false W (hr1.later hW) hl1 hm1 (rt_iff_false h)⟩
  obtain ⟨zb, HZB, cZ⟩ := cZ
  clear hr1 hr2 hl1 hl2 HP HQ
  have S0 : Hid (Sep w (w.alloc (.cells #[.int .i64 c.key, .int .i64 c.data, .bool c.gone] 44)) [.cells w.heap.size 44 c.cells]) := Lib.hid ((Sep.nil_ w).new 44 c.cells)
  go_enter Try.func5, Try.ntmps5
  go_wp2_with fail
  refine (cP.out _ S0.out.below).1.mono ?_; rintro e w1 ⟨A3, c3, rfl, K⟩
  have S1 := Lib.hid (S0.out.join K)
  clear K S0
  go_wp2_with fail
  refine (cP.out _ S1.out.below).2.mono ?_; rintro e w2 ⟨A4, c4, rfl, K⟩
  have S2 := Lib.hid (S1.out.join K)
  have d0 := S2.out.cell 0 rfl (k := 0) rfl
  have d1 := S2.out.cell 0 rfl (k := 1) rfl
  have d2 := S2.out.cell 0 rfl (k := 2) rfl
  clear K S1
  go_wp2_with fail
  refine (cU.out _ S2.out.below).mono ?_; rintro e w3 ⟨A5, c5, rfl, K⟩
  have S3 := Lib.hid (S2.out.join K)
  clear d0 d1 d2 K S2
  have d0 := S3.out.cell 0 rfl (k := 0) rfl
  have d1 := S3.out.cell 0 rfl (k := 1) rfl
  have d2 := S3.out.cell 0 rfl (k := 2) rfl
  have S3' := Lib.hid (S3.out.alloc (.cells #[.int .i64 c.key, .int .i64 c.data, .bool c.gone] 44))
  have cQ' := Lib.hid (cQ.out (some ⟨w3.heap.size, 0, none⟩) 1 _ S3'.out.below (Nat.le_refl _) (Rd.of_own (own_new w3 44 #[.int .i64 c.key, .int .i64 c.data, .bool c.gone] 3 1 rfl (by simp [maxLen]) (Nat.le_refl _)))).2
  go_wp2_with fail
  refine cQ'.out.mono ?_; rintro e w4 ⟨A6, c6, rfl, K⟩
  have S4 := Lib.hid (S3'.out.join K)
  clear d0 d1 d2 K S3 S3' cQ cQ' cU cP
  go_wp2_with fail
  refine (cL.out _ S4.out.below).mono ?_; rintro e w5 ⟨A7, c7, rfl, K⟩
  have S5 := Lib.hid (S4.out.join K)
  clear K S4 cL
  simp only at S5 ⊢
  have e1 := Lib.hid (equal_cells A3 A4 pl.length c3 c4 pl w5 (S5.out.rd 1 rfl) (S5.out.rd 2 rfl) rfl (by omega))
  go_wp2_with fail
  refine e1.out.mono ?_; rintro e w6 ⟨rfl, hb6⟩
  have S6 := Lib.hid (S5.out.later hb6)
  clear hb6 S5 e1
  have e2 := Lib.hid (equal_cells A5 A6 ql.length c5 c6 ql w6 (S6.out.rd 3 rfl) (S6.out.rd 4 rfl) rfl (by omega))
  go_wp2_with fail
  refine e2.out.mono ?_; rintro e w7 ⟨rfl, hb7⟩
  have S7 := Lib.hid (S6.out.later hb7)
  clear hb7 S6 e2
  go_wp2_with fail
  refine (cZ.out _ S7.out.below).mono ?_; rintro e w8 ⟨rfl, hb8⟩
  have S8 := Lib.hid ((S7.out.later hb8).pick [5] (by decide) (by simp))
  clear hb8 S7 cZ
  rcases HLL.out with ⟨hrt, hpp⟩ | ⟨hrt, hpp⟩
  · obtain rfl : zb = true := HZB.out.2 hrt
    cases hpp
    have hn4 : n1 ≤ 4096 := by rw [← HL1.out]; exact hrt.2
    clear HLL HZB hrt
    have S9 : Hid (Sep w w8 [.row 44 3 (.slice A7 (lastC xs).length c7) (lastC xs).length ((lastC xs).flatMap C.cells), .row 44 3 (.slice none 0 0) 0 []]) := Lib.hid (S8.out.nilRow 44 3 none)
    clear S8
    obtain ⟨nl, hnl⟩ : ∃ nl, nl = (lastC xs).length := ⟨_, rfl⟩
    have HNL := Lib.hid hnl
    rw [← hnl] at S9 hll ⊢
    clear hnl
    go_wp2
    go_loopg [17, 82] n1 (fun g v17 i wr => ∃ (k : Nat) (A : Option Addr) (c' : Nat), k ≤ n1 ∧ g = n1 - k ∧ i = .int .i64 k ∧ v17 = .slice A (lastC (xs.take k)).length c' ∧ Sep w wr [.row 44 3 (.slice A7 nl c7) nl ((lastC xs).flatMap C.cells), .row 44 3 (.slice A (lastC (xs.take k)).length c') (lastC (xs.take k)).length ((lastC (xs.take k)).flatMap C.cells)])
    case atStart => exact ⟨0, none, 0, Nat.zero_le _, rfl, rfl, rfl, S9.out⟩
    case round =>
      clear S9
      obtain ⟨k, A, c', hk, rfl, rfl, rfl, hs⟩ := hrel
      have HS := Lib.hid hs
      clear hs
      by_cases hlt : k < n1
      · obtain ⟨b, off, rfl, hb, hc⟩ := HR1.out.at_ C.len (by omega)
        obtain ⟨x, hx⟩ : ∃ x, xs[k]? = some x := ⟨_, List.getElem?_eq_getElem (by rw [HL1.out]; exact hlt)⟩
        obtain ⟨d0, d1, d2⟩ := C.facts hb HS.out.below hc hx
        have hsn : lastC (xs.take (k + 1)) = if x.gone then lastC (xs.take k) else lastC (xs.take k) ++ [x] := by rw [List.take_add_one, hx]; exact lastC_snoc _ _
        have hlk : (lastC (xs.take k)).length ≤ k := Nat.le_trans (lastC_len _) (by simp; omega)
        have i0 : (0 : Int) ≤ (k : Int) := by omega
        have i1 : (k : Int) < (n1 : Int) := by omega
        have HS1 := Lib.hid (HS.out.new 44 x.cells)
        generalize lastC (xs.take k) = out at HS HS1 hsn hlk ⊢
        obtain ⟨xk, xd, xg⟩ := x
        simp only at d0 d1 d2 hsn
        clear hc hx HS
        cases xg with
        | true =>
          have HSN : Hid (lastC (xs.take (k + 1)) = out) := Lib.hid hsn
          clear hsn
          go_wp2
          go_roundg (n1 - (k + 1))
          case measure => omega
          case rel =>
            refine ⟨k + 1, A, c', by omega, rfl, by go_num, ?_, ?_⟩
            · rw [HSN.out]
            · rw [HSN.out]; exact HS1.out.pick [0, 1] (by decide) (by simp)
        | false =>
          have HSN : Hid (lastC (xs.take (k + 1)) = out ++ [⟨xk, xd, false⟩]) := Lib.hid hsn
          have hnew := Lib.hid (Rd.of_own (own_new (wr.alloc (.cells #[.int .i64 xk, .int .i64 xd, .bool false] 44)) 44 #[.int .i64 xk, .int .i64 xd, .bool false] 3 1 rfl (by simp [maxLen]) (Nat.le_refl _)))
          have hsz : (wr.alloc (.cells #[.int .i64 xk, .int .i64 xd, .bool false] 44)).heap.size = wr.heap.size + 1 := by simp
          rw [hsz] at hnew
          clear hsn
          go_wp2_with (at_builtin; refine wpList_append_sep (HS1.out.alloc _) 1 rfl (.tmp 89) (.tmp 91) 42 rfl 44 ti (.agg #[.int .i64 0, .int .i64 0, .bool false]) 3 24 Try.underlying42 hti t0 t1 t2 rfl (by omega) _ out.length _ rfl rfl _ _ 1 1 _ rfl hnew.out (by simp [Value.oneCell']) (by simp only [maxLen]; omega) (by omega) ?_; intro A9 c9 w9 hc9 hs9 H9)
          go_roundg (n1 - (k + 1))
          case measure => omega
          case rel =>
            refine ⟨k + 1, A9, c9, by omega, rfl, by go_num, ?_, ?_⟩
            · rw [HSN.out, List.length_append]; rfl
            · rw [HSN.out, List.length_append, List.flatMap_append]; exact H9.pick [0, 1] (by decide) (by simp)
      · obtain rfl : k = n1 := by omega
        have HT : Hid (xs.take k = xs) := Lib.hid (List.take_of_length_le (by rw [HL1.out]; omega))
        rw [HT.out, ← HNL.out] at HS
        rw [HT.out, ← HNL.out]
        have e3 := Lib.hid (equal_cells A7 A nl c7 c' (lastC xs) wr (HS.out.rd 0 rfl) (HS.out.rd 1 rfl) HNL.out.symm (by omega))
        go_wp2_with fail
        refine e3.out.mono ?_; rintro e w9 ⟨rfl, hb9⟩
        have S9 := Lib.hid (HS.out.later hb9)
        clear hb9 HS e3
        go_wp2
        go_ret
        exact Ret.mk rfl S9.out.below
  · obtain rfl : zb = false := Bool.eq_false_iff.2 (fun h => hrt (HZB.out.1 h))
    cases hpp
    clear HLL HZB hrt
    go_wp2
    go_ret
    exact Ret.mk rfl S8.out.below

theorem cell_cells : Try.prog.cellsOf 44 = 3 := by kernel_rfl
theorem cell_parse {H : Type} {enc : TypeId × Value → H} {w : World} {base : Nat} {spare : Nat → Bool} {held : Bool} (n : Nat) (cs : List Value) (y : DataW H × List MemPlace)
    (h : DataW.trod enc Try.prog w base spare held n 44 cs = some y) : ∃ x : C, cs = x.cells ∧ True := by
  obtain ⟨hl, m, hf⟩ := parse_fields Try.underlying44 (by kernel_rfl) (by kernel_rfl) h
  obtain ⟨v0, z0, e0, t0⟩ := hf 0 _ rfl
  obtain ⟨v1, z1, e1, t1⟩ := hf 1 _ rfl
  obtain ⟨v2, z2, e2, t2⟩ := hf 2 _ rfl
  obtain ⟨a, rfl, _⟩ := parse_int Try.underlying3 t0
  obtain ⟨d, rfl, _⟩ := parse_int Try.underlying3 t1
  obtain ⟨b, rfl⟩ := parse_bool Try.underlying4 t2
  match cs, hl with
  | [c0, c1, c2], _ =>
    simp at e0 e1 e2
    subst e0 e1 e2
    exact ⟨⟨a, d, b⟩, rfl, trivial⟩

set_option maxRecDepth 100000 in
set_option maxHeartbeats 400000 in
theorem mergeTwo_lifted (os : Os) (started : os.Started) (H : Type) (enc : TypeId × Value → H) :
    ReturnsInHanded {} Try.checked os 5 .any (Rows.mergeTwoSpec.pre6 enc Try.prog Try.f5 Rows.mergeTwoRow.domain false)
      (Rows.mergeTwoSpec.post enc Try.prog Try.f5 false true false false) := by
  refine returnsInHanded_of_change (C := Try.checked) own started (by kernel_rfl) Try.func5
    (ChangeSpec.witness6 (enc := enc) (C := Try.checked) false ⟨#[], #[.slice none 0 0, .slice none 0 0, .agg #[.int .i64 0, .int .i64 0, .bool false]], []⟩ 8 (by kernel_rfl) (by kernel_rfl) (by kernel_rfl) (by kernel_rfl)) ?_
  intro W base args ds gs before hval0 hW hcnd _
  have hval : ∀ (j : Nat) t v, Try.f5.params[j]? = some t → args[j]? = some v → Value.okWide Try.prog W .any base t v := hval0
  have hW0 := hW
  obtain ⟨p, q, hA0, hV, _, _, _⟩ := hW
  have hA : DataW.TrodAll enc Try.prog W 0 (fun _ => true) true Try.f5.params.toList args.toList ds p := hA0
  rw [Try.params5] at hA hval
  obtain ⟨v0, vs0, d0, ds0, p0, q0, hargs, rfl, rfl, h0, r0⟩ := trodAll_cons hA
  obtain ⟨v1, vs1, d1, ds1, p1, q1, rfl, rfl, rfl, h1, r1⟩ := trodAll_cons r0
  obtain ⟨v2, vs2, d2, ds2, p2, q2, rfl, rfl, rfl, h2, r2⟩ := trodAll_cons r1
  obtain ⟨rfl, rfl, rfl⟩ := trodAll_nil r2
  obtain rfl : args = #[v0, v1, v2] := by cases args; simp_all
  obtain ⟨fu0, hf0⟩ := h0
  obtain ⟨fu1, hf1⟩ := h1
  obtain ⟨fu2, hf2⟩ := h2
  obtain ⟨A, n, cap, l, hcs, hl, hnc, hcm, _, hrd, _, _⟩ := open_list C.cells (fun _ => True) Try.underlying42 cell_cells C.len (by omega) cell_parse hf0
  obtain rfl := slice_of hcs (okWide_slice Try.underlying42 (hval 0 _ v0 rfl rfl))
  obtain ⟨A', n', cap', l', hcs', hl', hnc', hcm', _, hrd', _, _⟩ := open_list C.cells (fun _ => True) Try.underlying42 cell_cells C.len (by omega) cell_parse hf1
  obtain rfl := slice_of hcs' (okWide_slice Try.underlying42 (hval 1 _ v1 rfl rfl))
  obtain ⟨x, hx, _⟩ := cell_parse _ _ _ hf2
  obtain rfl : v2 = .agg x.cells.toArray := agg_of Try.underlying44 (hval 2 _ v2 rfl rfl) hx
  unfold maxLen at hcm hcm'
  refine (mergeTwo_walk A A' n n' cap cap' l l' x W hrd hl hnc (by omega) hrd' hl' hnc' (by omega)).mono fun e W' ⟨he, hg⟩ => ⟨_, he, ?_⟩
  exact law_post laidOut Try.underlying4 rfl rfl (by kernel_rfl) (fun xs hx => by
    match xs, hx with
    | [_, _, _], _ => rfl) hW0 hg

theorem mergeTwo_over : Rows.mergeTwoRow.holds Try.pinned (OpenSpec.ofChange Rows.mergeTwoSpec) :=
  OpenClaim.holds_of_wide 5 Try.f5 rfl rfl rfl rfl rfl rfl rfl ⟨rfl, rfl, rfl, rfl, rfl⟩ rfl rfl rfl rfl rfl (by kernel_rfl) Try.func5 (by kernel_rfl)
    (of_decide_eq_true (by kernel_rfl)) (by unfold Func.isWrapper; first | (rw [if_pos (by decide +kernel)]; kernel_rfl) | (rw [if_neg (by decide +kernel)]; exact ⟨rfl, rfl⟩))
    (fun os started H enc _ => mergeTwo_lifted os started H enc)
end Mrg
theorem mergeTwo_holds : Rows.MergeTwoSaid := Mrg.mergeTwo_over
end Go.Proofs.Ytcndddjnlnigeaa
