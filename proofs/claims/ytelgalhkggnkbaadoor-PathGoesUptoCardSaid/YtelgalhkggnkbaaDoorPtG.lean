/-
  Paths: walks of path.Up and of the law PathGoes. Conditions: none beyond each theorem's own premises.
-/
import Derived.Test.YtelgalhkggnkbaaDoorPtL
namespace Go.Proofs.YtelgalhkggnkbaaDoor
open Go.RowKit Go.Shelf
set_option linter.unusedVariables false
namespace Pt

/-- the last name, and the path above -/
def upn (l : List By) : By := (l[l.length - 1]?).getD []
def upf (l : List By) : By := ppath (l.take (l.length - 1))

set_option maxRecDepth 100000 in
set_option maxHeartbeats 800000 in
theorem up_any (s : By) (hs : s.length ≤ 1048577) (w : World) :
    Calls Tryd.prog 9 #[.string (bs s)] w (Ret w (.tuple #[.string (bs (upf (parts s))), .string (bs (upn (parts s)))])) := by
  obtain ⟨ti, hti, t0, t1, t2⟩ := info_parts string_info
  have c1 := Lib.hid (parts_any s (by omega) w)
  have hs1 := parts_sum s
  obtain ⟨x, hx⟩ : ∃ x, parts s = x := ⟨_, rfl⟩
  rw [hx] at c1 hs1 ⊢
  clear hx
  rcases Nat.eq_zero_or_pos x.length with h0 | h0
  · obtain rfl : x = [] := List.eq_nil_of_length_eq_zero h0
    have i0 : ((0 : Nat) : Int) - 1 < 0 := by omega
    rw [show ([] : List By).length = 0 from rfl] at c1
    clear h0 hs1
    go_enter Tryd.func9, Tryd.ntmps9
    go_wp2_with fail
    refine c1.out.mono ?_; rintro en w1 ⟨A1, q1, hq1, rfl, hs1⟩
    have HB := Lib.hid hs1.below
    clear hs1 c1 hq1
    go_wp2
    refine bodyPost_ret (v := .tuple #[.string (bs (upf [])), .string (bs (upn []))]) (by simp [results, Tryd.results9]; exact ⟨rfl, rfl⟩) rfl ?_
    exact Ret.mk rfl HB.out
  · obtain ⟨m, hm⟩ : ∃ m, x.length = m + 1 := ⟨x.length - 1, by omega⟩
    obtain ⟨u, hu⟩ : ∃ u, x[m]? = some u := ⟨_, List.getElem?_eq_getElem (by omega)⟩
    have HU : Hid (upn x = u) := Lib.hid (by unfold upn; rw [hm]; simp [hu])
    have HF : Hid (upf x = ppath (x.take m)) := Lib.hid (by unfold upf; rw [hm]; rfl)
    obtain ⟨n, hn⟩ : ∃ n, x.length = n := ⟨_, rfl⟩
    have cW := Lib.hid (fun A c (W : World) (h : Rd W W.heap.size 1 A x.length (x.flatMap sc)) (hkc : m ≤ c) => whole_any A m c (x.take m) W (take_rd h (by omega)) (by rw [List.length_take]; omega) hkc (by have := sumL_take x m; rw [List.length_take]; omega))
    rw [hn] at c1 cW hm
    have he : (n : Int) - 1 = (m : Int) := by omega
    have i0 : ¬ (m : Int) < 0 := by omega
    have i1 : (0 : Int) ≤ (m : Int) := by omega
    have i2 : (m : Int) < (n : Int) := by omega
    have HM := Lib.hid hm
    have HU2 := Lib.hid hu
    have hmn : m < n := by omega
    have hm2 : m ≤ 1048577 := by omega
    have hwm : wrap64 (m : Int) = (m : Int) := by unfold wrap64; omega
    clear hs1 h0 hu hm hn
    go_enter Tryd.func9, Tryd.ntmps9
    go_wp2_with fail
    refine c1.out.mono ?_; rintro en w1 ⟨A1, q1, hq1, rfl, hs1⟩
    have H1 := Lib.hid hs1
    clear hs1 c1
    go_upto_region 5 with (fail)
    obtain ⟨b, off, rfl, hb, hc⟩ := (H1.out.rd 0 rfl).at_ sc_len (by omega)
    have e0 : w1.cell? ⟨b, off + m, none⟩ = some (.string (bs u)) := by simpa using hc m 0 u _ HU2.out rfl
    have e0' := fun z : LaterOf w1 => z.cell e0
    have hsl : ∀ W, (Instr.slice 22 (.slice (some ⟨b, off, none⟩) n q1) none (some (.int .i64 (m : Int))) none).run Tryd.prog W = .ok (.slice (some ⟨b, off, none⟩) m q1) W := fun W => upto_run Tryd.underlying22 (size_of_info hti t1) _ n q1 m (by omega) W
    have dW := Lib.hid (fun z : LaterOf w1 => cW.out (some ⟨b, off, none⟩) q1 z.w ((H1.out.rd 0 rfl).later z.h) (by omega))
    clear hb hc e0 cW
    refine wp_region_later (by kernel_rfl) (by kernel_rfl) ?_
    repeat (go_big_quiet_step (with_reducible exact Calls.later (dW.out _)))
    refine wpQuiet_nil ?_; intro xw hw'; obtain ⟨xq, hw''⟩ := hw'; obtain ⟨xw0, xh⟩ := xq; change xw = xw0 at hw''; subst hw''
    have HB := Lib.hid (H1.out.below.trans (xh.mono H1.out.below.size))
    go_wp2
    rw [HU.out, HF.out]
    refine bodyPost_ret (v := .tuple #[.string (bs (ppath (x.take m))), .string (bs u)]) (by simp [results, Tryd.results9]) rfl ?_
    exact Ret.mk rfl HB.out

set_option maxRecDepth 100000 in
set_option maxHeartbeats 3200000 in
theorem pathGoes_walk (s at_ : By) (hs : at_.length + s.length ≤ 1048576) (w : World) :
    Calls Tryd.prog 4 #[.string (bs s), .string (bs at_)] w (Ret w (.bool true)) := by
  obtain ⟨ti, hti, t0, t1, t2⟩ := info_parts string_info
  have cR := Lib.hid (pparts_any s (by omega) w)
  have cU := Lib.hid (fun W => up_any s (by omega) W)
  have cP := Lib.hid (fun W => parts_any s (by omega) W)
  have cC := Lib.hid (fun W => clean_any s (by omega) W)
  have cJ := Lib.hid (fun W => join_path_any at_ s hs W)
  have cK := Lib.hid (fun W => pjoin_any at_ s hs W)
  have hs1 := parts_sum s
  obtain ⟨x, hx⟩ : ∃ x, parts s = x := ⟨_, rfl⟩
  rw [hx] at cR cU cP cC hs1
  clear hx
  have cW := Lib.hid (fun k A c (W : World) (h : Rd W W.heap.size 1 A x.length (x.flatMap sc)) (hk : k ≤ x.length) => ppath_any A k c (x.take k) W (take_rd h hk) (by rw [List.length_take]; omega) (by have := sumL_take x k; rw [List.length_take]; omega))
  have cX := Lib.hid (fun A c (W : World) (h : Rd W W.heap.size 1 A x.length (x.flatMap sc)) => ppath_any A x.length c x W h rfl (by omega))
  have cE := Lib.hid (fun A c A' c' (W : World) (h : Rd W W.heap.size 1 A x.length (x.flatMap sc)) (h' : Rd W W.heap.size 1 A' x.length (x.flatMap sc)) => equal_names A A' x.length c c' x W h h' rfl (by omega))
  obtain ⟨J, hJ⟩ : ∃ J, bs (jn at_ s) = J := ⟨_, rfl⟩
  rw [hJ] at cJ cK
  obtain ⟨C, hC⟩ : ∃ C, bs (ppath x) = C := ⟨_, rfl⟩
  rw [hC] at cC cX
  clear hJ hC
  have zJ : (J.toList == J.toList) = true := by simp
  have zC : (C.toList == C.toList) = true := by simp
  rcases Nat.eq_zero_or_pos x.length with h0 | h0
  · obtain rfl : x = [] := List.eq_nil_of_length_eq_zero h0
    obtain ⟨F, hF⟩ : ∃ F, bs (upf []) = F := ⟨_, rfl⟩
    obtain ⟨U, hU⟩ : ∃ U, bs (upn []) = U := ⟨_, rfl⟩
    have zF : (F.toList == [47]) = true := by rw [← hF, bs_toList]; rfl
    have zU : U.toList.isEmpty = true := by rw [← hU, bs_toList]; rfl
    rw [hF, hU] at cU
    rw [show ([] : List By).length = 0 from rfl] at cR cP cX cE
    clear hF hU h0 hs1 cW
    go_enter Tryd.func4, Tryd.ntmps4
    go_wp2_with fail
    refine cR.out.mono ?_; rintro en w1 ⟨A1, q1, hq1, rfl, hs1⟩
    have H1 := Lib.hid hs1
    clear hs1 cR
    go_wp2_with fail
    refine (cU.out w1).mono ?_; rintro en w2 ⟨rfl, hb2⟩
    have H2 := Lib.hid (H1.out.later hb2)
    clear hb2 cU H1
    have n0 : ((0 : Nat) : Int) = 0 := rfl
    go_wp2_with fail
    refine (cP.out _).mono ?_; rintro en w4 ⟨A4, q4, hq4, rfl, hs4⟩
    have H4 := Lib.hid (H2.out.join hs4)
    clear hs4 cP H2
    have c5 := Lib.hid (cE.out A4 q4 _ q1 w4 (H4.out.rd 1 rfl) (H4.out.rd 0 rfl))
    clear cE
    go_wp2_with fail
    refine c5.out.mono ?_; rintro en w5 ⟨rfl, hb5⟩
    have H5 := Lib.hid (H4.out.later hb5)
    clear hb5 c5 H4
    go_wp2_with fail
    refine (cC.out _).mono ?_; rintro en w6 ⟨rfl, hb6⟩
    have H6 := Lib.hid (H5.out.later hb6)
    clear hb6 cC H5
    have c7 := Lib.hid (cX.out _ q1 w6 (H6.out.rd 0 rfl))
    clear cX
    go_wp2_with fail
    refine c7.out.mono ?_; rintro en w7 ⟨rfl, hb7⟩
    have H7 := Lib.hid (H6.out.later hb7)
    clear hb7 c7 H6
    go_wp2_with fail
    refine (cJ.out _).mono ?_; rintro en w8 ⟨rfl, hb8⟩
    have H8 := Lib.hid (H7.out.later hb8)
    clear hb8 cJ H7
    go_wp2_with fail
    refine (cK.out _).mono ?_; rintro en w9 ⟨rfl, hb9⟩
    have H9 := Lib.hid (H8.out.later hb9)
    clear hb9 cK H8
    go_wp2
    go_ret
    exact Ret.mk rfl H9.out.below
  · obtain ⟨m, hm⟩ : ∃ m, x.length = m + 1 := ⟨x.length - 1, by omega⟩
    obtain ⟨u, hu⟩ : ∃ u, x[m]? = some u := ⟨_, List.getElem?_eq_getElem (by omega)⟩
    have hU0 : upn x = u := by unfold upn; rw [hm]; simp [hu]
    have hF0 : upf x = ppath (x.take m) := by unfold upf; rw [hm]; rfl
    rw [hU0, hF0] at cU
    have cV := Lib.hid (fun A c (W : World) (h : Rd W W.heap.size 1 A x.length (x.flatMap sc)) => cW.out m A c W h (by omega))
    obtain ⟨F, hF⟩ : ∃ F, bs (ppath (x.take m)) = F := ⟨_, rfl⟩
    rw [hF] at cU cV
    obtain ⟨n, hn⟩ : ∃ n, x.length = n := ⟨_, rfl⟩
    rw [hn] at cR cP cX cE cV hm hs1
    have zF : (F.toList == F.toList) = true := by simp
    have zU : ((bs u).toList == (bs u).toList) = true := by simp
    have he : (n : Int) - 1 = (m : Int) := by omega
    have i0 : ((n : Int) == 0) = false := by simp; omega
    have i1 : (0 : Int) ≤ (m : Int) := by omega
    have i2 : (m : Int) < (n : Int) := by omega
    have HU := Lib.hid hu
    have hmn : m < n := by omega
    have hm2 : m ≤ 1048577 := by omega
    have hwm : wrap64 (m : Int) = (m : Int) := by unfold wrap64; omega
    clear hF hs1 h0 hu hm hn hU0 hF0 cW
    go_enter Tryd.func4, Tryd.ntmps4
    go_wp2_with fail
    refine cR.out.mono ?_; rintro en w1 ⟨A1, q1, hq1, rfl, hs1⟩
    have H1 := Lib.hid hs1
    clear hs1 cR
    go_wp2_with fail
    refine (cU.out w1).mono ?_; rintro en w2 ⟨rfl, hb2⟩
    have H2 := Lib.hid (H1.out.later hb2)
    clear hb2 cU H1
    obtain ⟨b, off, rfl, hb, hc⟩ := (H2.out.rd 0 rfl).at_ sc_len (by omega)
    have e0 : w2.cell? ⟨b, off + m, none⟩ = some (.string (bs u)) := by simpa using hc m 0 u _ HU.out rfl
    have hsl : ∀ W, (Instr.slice 22 (.slice (some ⟨b, off, none⟩) n q1) none (some (.int .i64 (m : Int))) none).run Tryd.prog W = .ok (.slice (some ⟨b, off, none⟩) m q1) W := fun W => upto_run Tryd.underlying22 (size_of_info hti t1) _ n q1 m (by omega) W
    have cV1 := Lib.hid (cV.out (some ⟨b, off, none⟩) q1 w2 (H2.out.rd 0 rfl))
    clear cV
    go_wp2_with fail
    refine cV1.out.mono ?_; rintro en w3 ⟨rfl, hb3⟩
    have e1 := (hb3.cell hb).trans e0
    have H3 := Lib.hid (H2.out.later hb3)
    clear hb hc e0 cV1 hb3 H2
    have H2 := H3
    clear H3
    go_wp2_with fail
    refine (cP.out _).mono ?_; rintro en w4 ⟨A4, q4, hq4, rfl, hs4⟩
    have H4 := Lib.hid (H2.out.join hs4)
    clear hs4 cP H2
    have c5 := Lib.hid (cE.out A4 q4 _ q1 w4 (H4.out.rd 1 rfl) (H4.out.rd 0 rfl))
    clear cE
    go_wp2_with fail
    refine c5.out.mono ?_; rintro en w5 ⟨rfl, hb5⟩
    have H5 := Lib.hid (H4.out.later hb5)
    clear hb5 c5 H4
    go_wp2_with fail
    refine (cC.out _).mono ?_; rintro en w6 ⟨rfl, hb6⟩
    have H6 := Lib.hid (H5.out.later hb6)
    clear hb6 cC H5
    have c7 := Lib.hid (cX.out _ q1 w6 (H6.out.rd 0 rfl))
    clear cX
    go_wp2_with fail
    refine c7.out.mono ?_; rintro en w7 ⟨rfl, hb7⟩
    have H7 := Lib.hid (H6.out.later hb7)
    clear hb7 c7 H6
    go_wp2_with fail
    refine (cJ.out _).mono ?_; rintro en w8 ⟨rfl, hb8⟩
    have H8 := Lib.hid (H7.out.later hb8)
    clear hb8 cJ H7
    go_wp2_with fail
    refine (cK.out _).mono ?_; rintro en w9 ⟨rfl, hb9⟩
    have H9 := Lib.hid (H8.out.later hb9)
    clear hb9 cK H8
    go_wp2
    go_ret
    exact Ret.mk rfl H9.out.below
end Pt
end Go.Proofs.YtelgalhkggnkbaaDoor
