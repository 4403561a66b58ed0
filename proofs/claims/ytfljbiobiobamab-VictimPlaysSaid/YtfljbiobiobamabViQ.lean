/-
  Walk of the reference's GPlay. Conditions: none beyond each theorem's own premises.
-/
import Derived.Test.YtfljbiobiobamabViP
namespace Go.Proofs.Ytfljbiobiobamab
open Go.RowKit Go.Shelf
set_option linter.unusedVariables false
namespace Vic

theorem way_chk {l : List Fm} {sp k e : Int} (h : Way l sp k e) : (chkE l sp ≠ 0 → e = chkE l sp ∧ e ≠ 3) ∧ (chkE l sp = 0 → e = 0 ∨ e = 3) := by
  cases h with
  | form h => rw [show chkE l sp = 1 by unfold chkE; rw [if_neg h]]; exact ⟨fun _ => ⟨rfl, by omega⟩, by omega⟩
  | range h h1 => rw [show chkE l sp = 2 by unfold chkE; rw [if_pos h, if_pos h1]]; exact ⟨fun _ => ⟨rfl, by omega⟩, by omega⟩
  | none h h1 h2 => rw [show chkE l sp = 0 by unfold chkE; rw [if_pos h, if_neg h1]]; exact ⟨by omega, fun _ => .inr rfl⟩
  | some k h h1 h2 h3 => rw [show chkE l sp = 0 by unfold chkE; rw [if_pos h, if_neg h1]]; exact ⟨by omega, fun _ => .inl rfl⟩
theorem ers_cells {l : List Fm} {j : Nat} {nd we : Int} (hj : l[j]? = some ⟨nd, 4, we⟩) : ((l.flatMap Fm.cells).set (j * 3) (.int .i64 0)).set (j * 3 + 2) (.int .i64 (we + 1)) = (ers l j).flatMap Fm.cells := by
  have h1 := flat_set1 Fm.len (x := ⟨nd, 4, we⟩) (y := ⟨0, 4, we⟩) (j := 0) (v := .int .i64 0) (by omega) rfl l j hj
  rw [Nat.add_zero] at h1
  rw [h1]
  have hl := (List.getElem?_eq_some_iff.1 hj).1
  have h2 := flat_set1 Fm.len (x := ⟨0, 4, we⟩) (y := ⟨0, 4, we + 1⟩) (j := 2) (v := .int .i64 (we + 1)) (by omega) rfl (l.set j ⟨0, 4, we⟩) j (by rw [List.getElem?_set_self hl])
  rw [h2, List.set_set]
  unfold ers
  rw [fAt_eq hj]

set_option maxRecDepth 100000 in
set_option maxHeartbeats 3200000 in
theorem gplay_any (A : Option Addr) (n c : Nat) (l : List Fm) (sp tm : Int) (w : World) (hr : Rd w w.heap.size 3 A n (l.flatMap Fm.cells)) (hl : l.length = n) (hn : n ≤ 9223372036854775807) :
    Calls Try.prog 18 #[.slice A n c, .int .i64 sp, .int .i64 tm] w (PRet w l sp tm) := by
  obtain ⟨ti, hti, t0, t1, t2⟩ := info_parts int_info
  obtain ⟨tf, htf, s0, s1, s2⟩ := info_parts fill_info
  have HR := Lib.hid hr
  have HL := Lib.hid hl
  have cC := Lib.hid (ggreedy_any A n c l sp w hr hl hn)
  clear hr hl
  go_enter Try.func18, Try.ntmps18
  go_wp2_with fail
  refine cC.out.mono ?_; rintro en w1 ⟨kk, er, rfl, hw1, hb1⟩
  have HB1 := Lib.hid hb1
  have hck := way_chk hw1
  obtain ⟨ce, hce⟩ : ∃ ce, ce = chkE l sp := ⟨_, rfl⟩
  rw [← hce] at hck
  have HCE := Lib.hid hce
  clear hce cC hb1 hw1
  by_cases h0 : ce = 0
  · subst h0
    have hok := chk_zero HCE.out.symm
    have her := hck.2 rfl
    clear hck
    rcases her with rfl | rfl
    · by_cases ht1 : tm < 0
      · have HRS := Lib.hid (Res.many HCE.out.symm (.inl ht1) (tm := tm))
        clear hok
        go_wp2
        refine bodyPost_ret (v := .tuple #[.slice none 0 0, .slice none 0 0, .int .i64 2]) (by simp [results, Try.results18]) rfl ?_
        exact PRet.none_ HRS.out HB1.out
      · by_cases ht2 : tm > 400
        · have HRS := Lib.hid (Res.many HCE.out.symm (.inr ht2) (tm := tm))
          clear hok
          go_wp2
          refine bodyPost_ret (v := .tuple #[.slice none 0 0, .slice none 0 0, .int .i64 2]) (by simp [results, Try.results18]) rfl ?_
          exact PRet.none_ HRS.out HB1.out
        · obtain ⟨T, rfl⟩ : ∃ T : Nat, tm = T := ⟨tm.toNat, by omega⟩
          have hT : T ≤ 400 := by omega
          have HOK := Lib.hid hok.1
          have hn4 : n ≤ 4096 := by rw [← HL.out]; exact hok.1.1
          have HS0 : Hid (Sep w (w1.alloc (.cells #[] 34)) [.row 34 3 (.slice (some ⟨w1.heap.size, 0, none⟩) 0 0) 0 []]) := Lib.hid ((((Sep.nil_ w).later HB1.out).alloc _).nilRow 34 3 _)
          have HRs := Lib.hid (HR.out.later HS0.out.below)
          clear hok ht1 ht2 HB1
          go_wp2_with (at_builtin; refine wpList_append_sep HS0.out 0 rfl (.tmp 34) (.tmp 35) 28 rfl 34 tf (.agg #[.int .i64 0, .int .i64 0, .int .i64 0]) 3 24 Try.underlying28 htf s0 s1 s2 rfl (by omega) _ 0 _ rfl rfl _ _ n c _ rfl HRs.out (Fm.one l) (by simp only [maxLen]; omega) (by omega) ?_; intro A2 c2 w2 hc2 hs2 HA)
          have HS2 : Hid (Sep w w2 [sR none 0 0 [], .row 34 3 (.slice A2 n c2) n (l.flatMap Fm.cells)]) := Lib.hid (by
            rw [Nat.zero_add] at HA
            exact (HA.nilRow 3 1 none).pick [1, 0] (by decide) (by simp))
          clear HA HS0 HRs hc2 hs2
          go_loopg [12] T (fun g v wr => ∃ (k : Nat) (ch : List Nat) (cur : List Fm) (A1 : Option Addr) (c1 : Nat), k ≤ T ∧ g = T - k ∧ ch.length = k ∧ v = .slice A1 k c1 ∧ Hid (cur.length = n) ∧ Hid (OkL cur) ∧ Hid (∀ ch2 lf, Pl sp (T - k) cur ch2 lf → Pl sp T l (ch ++ ch2) lf) ∧ Sep w wr [sR A1 k c1 ch, .row 34 3 (.slice A2 n c2) n (cur.flatMap Fm.cells)])
          case atStart => exact ⟨0, [], l, none, 0, Nat.zero_le _, rfl, rfl, rfl, HL, HOK, Lib.hid (fun ch2 lf h => h), HS2.out⟩
          case round =>
            clear HS2 HL HOK
            obtain ⟨k, ch, cur, A1, c1, hk, rfl, hchl, rfl, HL, HOK, HP, hs⟩ := hrel
            have HS := Lib.hid hs
            have HCL := Lib.hid hchl
            clear hs hchl
            by_cases hlt : k < T
            · have cG := Lib.hid (ggreedy_any A2 n c2 cur sp wr (HS.out.rd 1 rfl) HL.out hn)
              obtain ⟨r, hr⟩ : ∃ r, T - k = r + 1 := ⟨T - k - 1, by omega⟩
              have HRR := Lib.hid hr
              clear hr
              go_wp2_with fail
              refine cG.out.mono ?_; rintro en w3 ⟨kk, er, rfl, hw3, hb3⟩
              have HS3 := Lib.hid (HS.out.later hb3)
              have HW := Lib.hid hw3
              clear cG hb3 hw3 HS
              by_cases he : er = 0
              · subst he
                obtain ⟨j, rfl, hcj⟩ : ∃ j : Nat, kk = j ∧ Cand cur sp j := by
                  have h := HW.out
                  cases h with
                  | some j h h1 h2 h3 => exact ⟨j, rfl, h2⟩
                have hjn : j < n := by rw [← HL.out]; exact hcj.1
                have hj4 := hcj.2.1
                clear hcj
                obtain ⟨y, hy⟩ : ∃ y, cur[j]? = some y := ⟨_, List.getElem?_eq_getElem (by rw [HL.out]; exact hjn)⟩
                have hfy := fAt_eq hy
                rw [hfy] at hj4
                obtain ⟨yn, yd, yw⟩ := y
                simp only at hj4
                subst hj4
                have HY := Lib.hid hy
                obtain ⟨g2, rfl, _, hat⟩ := HS3.out.rowAt 1 rfl (by omega)
                have d0 : w3.cell? ⟨g2, j * 3, none⟩ = some (.int .i64 yn) := (hat _).1 _ (flat_get Fm.len cur j 0 _ hy (by decide))
                have d2 : w3.cell? ⟨g2, j * 3 + 2, none⟩ = some (.int .i64 yw) := (hat _).1 _ (flat_get Fm.len cur j 2 _ hy (by decide))
                have hyo := (HOK.out.2 _ (List.mem_of_getElem? hy)).2
                simp only at hyo
                have j0 : (0 : Int) ≤ (j : Int) := by omega
                have j1 : (j : Int) < (n : Int) := by omega
                have HFY := Lib.hid hfy
                obtain ⟨y0, y1⟩ := hyo
                by_cases hyw : yw = 1048576
                · subst hyw
                  have HFP : Hid (Pl sp T l ch cur) := Lib.hid (by
                    have h := HP.out [] cur (by rw [HRR.out]; exact .worn r cur j HW.out (by rw [HFY.out]))
                    rwa [List.append_nil] at h)
                  clear HP hat hy hfy
                  go_wp2
                  refine bodyPost_ret (v := .tuple #[.slice A1 k c1, .slice (some ⟨g2, 0, none⟩) n c2, .int .i64 0]) (by simp [results, Try.results18]) rfl ?_
                  refine ⟨A1, _, c1, c2, ch, cur, 0, by rw [HCL.out, HL.out], .ok HCE.out.symm _ rfl hT ch cur HFP.out, by rw [HCL.out]; omega, by rw [HL.out]; omega, ?_, ?_, HS3.out.below⟩
                  · rw [HCL.out]; exact HS3.out.rd 0 rfl
                  · rw [HL.out]; exact HS3.out.rd 1 rfl
                · have HPN : Hid (∀ ch2 lf, Pl sp (T - (k + 1)) (ers cur j) ch2 lf → Pl sp T l ((ch ++ [j]) ++ ch2) lf) := Lib.hid (fun ch2 lf h => by
                    have h2 := HP.out (j :: ch2) lf (by rw [HRR.out]; exact .go r cur j ch2 lf HW.out (by rw [HFY.out]; exact hyw) (by rw [show r = T - (k + 1) by have := HRR.out; omega]; exact h))
                    rw [List.append_assoc]
                    exact h2)
                  have HOKN := Lib.hid (ers_ok HOK.out (j := j) (by rw [HL.out]; exact hjn) (by rw [HFY.out]; exact hyw))
                  have HLN : Hid ((ers cur j).length = n) := Lib.hid (by rw [ers_len]; exact HL.out)
                  have hyl : ¬ yw ≥ 1048576 := by omega
                  have u0 := (hat (j * 3)).2.1
                  have u2 := (hat (j * 3 + 2)).2.1
                  have K1 := (hat (j * 3)).2.2 (.int .i64 0)
                  obtain ⟨g', hg', _, hat2⟩ := K1.rowAt 1 rfl (by omega)
                  cases hg'
                  have K2 := (hat2 (j * 3 + 2)).2.2 (.int .i64 (yw + 1))
                  rw [ers_cells hy] at K2
                  have HK : Hid (Sep w ((w3.setCell ⟨g2, j * 3, none⟩ (.int .i64 0)).setCell ⟨g2, j * 3 + 2, none⟩ (.int .i64 (yw + 1))) [sR A1 k c1 ch, .row 34 3 (.slice (some ⟨g2, 0, none⟩) n c2) n ((ers cur j).flatMap Fm.cells)]) := Lib.hid K2
                  clear HP HOK hat hat2 K1 K2 hy hfy
                  go_upto_region 13 with (fail)
                  clear d0 d2 u0 u2
                  generalize (w3.setCell ⟨g2, j * 3, none⟩ (.int .i64 0)).setCell ⟨g2, j * 3 + 2, none⟩ (.int .i64 (yw + 1)) = w5 at HK ⊢
                  have hnew := Lib.hid (Rd.of_own (own_new w5 3 #[.int .i64 (j : Int)] 1 1 rfl (by simp [maxLen]) (Nat.le_refl _)))
                  go_wp2_with (at_builtin; refine wpList_append_sep (HK.out.alloc _) 0 rfl (.tmp 69) (.tmp 71) 37 rfl 3 ti (.int .i64 0) 1 8 Try.underlying37 hti t0 t1 t2 rfl (by omega) _ k _ rfl rfl _ _ 1 1 _ rfl hnew.out (by simp [Value.oneCell']) (by simp only [maxLen]; omega) (by omega) ?_; intro A7 c7 w7 hc7 hs7 H7'; have H7 := Lib.hid H7'; clear H7')
                  go_roundg (T - (k + 1))
                  case measure => omega
                  case rel =>
                    refine ⟨k + 1, ch ++ [j], ers cur j, A7, c7, by omega, rfl, by rw [List.length_append, HCL.out]; rfl, rfl, HLN, HOKN, HPN, ?_⟩
                    have h := H7.out
                    unfold sR
                    rw [List.flatMap_append]
                    exact h
              · have HFP : Hid (Pl sp T l ch cur) := Lib.hid (by
                  have h := HP.out [] cur (by rw [HRR.out]; exact .none r cur kk er HW.out he)
                  rwa [List.append_nil] at h)
                have hz : (er == 0) = false := by simpa using he
                clear HP
                go_wp2
                refine bodyPost_ret (v := .tuple #[.slice A1 k c1, .slice A2 n c2, .int .i64 0]) (by simp [results, Try.results18]) rfl ?_
                refine ⟨A1, _, c1, c2, ch, cur, 0, by rw [HCL.out, HL.out], .ok HCE.out.symm _ rfl hT ch cur HFP.out, by rw [HCL.out]; omega, by rw [HL.out]; omega, ?_, ?_, HS3.out.below⟩
                · rw [HCL.out]; exact HS3.out.rd 0 rfl
                · rw [HL.out]; exact HS3.out.rd 1 rfl
            · obtain rfl : k = T := by omega
              have HFP : Hid (Pl sp k l ch cur) := Lib.hid (by
                have h := HP.out [] cur (by rw [Nat.sub_self]; exact .stop cur)
                rwa [List.append_nil] at h)
              clear HP
              go_wp2
              refine bodyPost_ret (v := .tuple #[.slice A1 k c1, .slice A2 n c2, .int .i64 0]) (by simp [results, Try.results18]) rfl ?_
              refine ⟨A1, _, c1, c2, ch, cur, 0, by rw [HCL.out, HL.out], .ok HCE.out.symm _ rfl hT ch cur HFP.out, by rw [HCL.out]; omega, by rw [HL.out]; omega, ?_, ?_, HS.out.below⟩
              · rw [HCL.out]; exact HS.out.rd 0 rfl
              · rw [HL.out]; exact HS.out.rd 1 rfl
    · by_cases ht1 : tm < 0
      · have HRS := Lib.hid (Res.many HCE.out.symm (.inl ht1) (tm := tm))
        clear hok
        go_wp2
        refine bodyPost_ret (v := .tuple #[.slice none 0 0, .slice none 0 0, .int .i64 2]) (by simp [results, Try.results18]) rfl ?_
        exact PRet.none_ HRS.out HB1.out
      · by_cases ht2 : tm > 400
        · have HRS := Lib.hid (Res.many HCE.out.symm (.inr ht2) (tm := tm))
          clear hok
          go_wp2
          refine bodyPost_ret (v := .tuple #[.slice none 0 0, .slice none 0 0, .int .i64 2]) (by simp [results, Try.results18]) rfl ?_
          exact PRet.none_ HRS.out HB1.out
        · obtain ⟨T, rfl⟩ : ∃ T : Nat, tm = T := ⟨tm.toNat, by omega⟩
          have hT : T ≤ 400 := by omega
          have HOK := Lib.hid hok.1
          have hn4 : n ≤ 4096 := by rw [← HL.out]; exact hok.1.1
          have HS0 : Hid (Sep w (w1.alloc (.cells #[] 34)) [.row 34 3 (.slice (some ⟨w1.heap.size, 0, none⟩) 0 0) 0 []]) := Lib.hid ((((Sep.nil_ w).later HB1.out).alloc _).nilRow 34 3 _)
          have HRs := Lib.hid (HR.out.later HS0.out.below)
          clear hok ht1 ht2 HB1
          go_wp2_with (at_builtin; refine wpList_append_sep HS0.out 0 rfl (.tmp 34) (.tmp 35) 28 rfl 34 tf (.agg #[.int .i64 0, .int .i64 0, .int .i64 0]) 3 24 Try.underlying28 htf s0 s1 s2 rfl (by omega) _ 0 _ rfl rfl _ _ n c _ rfl HRs.out (Fm.one l) (by simp only [maxLen]; omega) (by omega) ?_; intro A2 c2 w2 hc2 hs2 HA)
          have HS2 : Hid (Sep w w2 [sR none 0 0 [], .row 34 3 (.slice A2 n c2) n (l.flatMap Fm.cells)]) := Lib.hid (by
            rw [Nat.zero_add] at HA
            exact (HA.nilRow 3 1 none).pick [1, 0] (by decide) (by simp))
          clear HA HS0 HRs hc2 hs2
          go_loopg [12] T (fun g v wr => ∃ (k : Nat) (ch : List Nat) (cur : List Fm) (A1 : Option Addr) (c1 : Nat), k ≤ T ∧ g = T - k ∧ ch.length = k ∧ v = .slice A1 k c1 ∧ Hid (cur.length = n) ∧ Hid (OkL cur) ∧ Hid (∀ ch2 lf, Pl sp (T - k) cur ch2 lf → Pl sp T l (ch ++ ch2) lf) ∧ Sep w wr [sR A1 k c1 ch, .row 34 3 (.slice A2 n c2) n (cur.flatMap Fm.cells)])
          case atStart => exact ⟨0, [], l, none, 0, Nat.zero_le _, rfl, rfl, rfl, HL, HOK, Lib.hid (fun ch2 lf h => h), HS2.out⟩
          case round =>
            clear HS2 HL HOK
            obtain ⟨k, ch, cur, A1, c1, hk, rfl, hchl, rfl, HL, HOK, HP, hs⟩ := hrel
            have HS := Lib.hid hs
            have HCL := Lib.hid hchl
            clear hs hchl
            by_cases hlt : k < T
            · have cG := Lib.hid (ggreedy_any A2 n c2 cur sp wr (HS.out.rd 1 rfl) HL.out hn)
              obtain ⟨r, hr⟩ : ∃ r, T - k = r + 1 := ⟨T - k - 1, by omega⟩
              have HRR := Lib.hid hr
              clear hr
              go_wp2_with fail
              refine cG.out.mono ?_; rintro en w3 ⟨kk, er, rfl, hw3, hb3⟩
              have HS3 := Lib.hid (HS.out.later hb3)
              have HW := Lib.hid hw3
              clear cG hb3 hw3 HS
              by_cases he : er = 0
              · subst he
                obtain ⟨j, rfl, hcj⟩ : ∃ j : Nat, kk = j ∧ Cand cur sp j := by
                  have h := HW.out
                  cases h with
                  | some j h h1 h2 h3 => exact ⟨j, rfl, h2⟩
                have hjn : j < n := by rw [← HL.out]; exact hcj.1
                have hj4 := hcj.2.1
                clear hcj
                obtain ⟨y, hy⟩ : ∃ y, cur[j]? = some y := ⟨_, List.getElem?_eq_getElem (by rw [HL.out]; exact hjn)⟩
                have hfy := fAt_eq hy
                rw [hfy] at hj4
                obtain ⟨yn, yd, yw⟩ := y
                simp only at hj4
                subst hj4
                have HY := Lib.hid hy
                obtain ⟨g2, rfl, _, hat⟩ := HS3.out.rowAt 1 rfl (by omega)
                have d0 : w3.cell? ⟨g2, j * 3, none⟩ = some (.int .i64 yn) := (hat _).1 _ (flat_get Fm.len cur j 0 _ hy (by decide))
                have d2 : w3.cell? ⟨g2, j * 3 + 2, none⟩ = some (.int .i64 yw) := (hat _).1 _ (flat_get Fm.len cur j 2 _ hy (by decide))
                have hyo := (HOK.out.2 _ (List.mem_of_getElem? hy)).2
                simp only at hyo
                have j0 : (0 : Int) ≤ (j : Int) := by omega
                have j1 : (j : Int) < (n : Int) := by omega
                have HFY := Lib.hid hfy
                obtain ⟨y0, y1⟩ := hyo
                by_cases hyw : yw = 1048576
                · subst hyw
                  have HFP : Hid (Pl sp T l ch cur) := Lib.hid (by
                    have h := HP.out [] cur (by rw [HRR.out]; exact .worn r cur j HW.out (by rw [HFY.out]))
                    rwa [List.append_nil] at h)
                  clear HP hat hy hfy
                  go_wp2
                  refine bodyPost_ret (v := .tuple #[.slice A1 k c1, .slice (some ⟨g2, 0, none⟩) n c2, .int .i64 0]) (by simp [results, Try.results18]) rfl ?_
                  refine ⟨A1, _, c1, c2, ch, cur, 0, by rw [HCL.out, HL.out], .ok HCE.out.symm _ rfl hT ch cur HFP.out, by rw [HCL.out]; omega, by rw [HL.out]; omega, ?_, ?_, HS3.out.below⟩
                  · rw [HCL.out]; exact HS3.out.rd 0 rfl
                  · rw [HL.out]; exact HS3.out.rd 1 rfl
                · have HPN : Hid (∀ ch2 lf, Pl sp (T - (k + 1)) (ers cur j) ch2 lf → Pl sp T l ((ch ++ [j]) ++ ch2) lf) := Lib.hid (fun ch2 lf h => by
                    have h2 := HP.out (j :: ch2) lf (by rw [HRR.out]; exact .go r cur j ch2 lf HW.out (by rw [HFY.out]; exact hyw) (by rw [show r = T - (k + 1) by have := HRR.out; omega]; exact h))
                    rw [List.append_assoc]
                    exact h2)
                  have HOKN := Lib.hid (ers_ok HOK.out (j := j) (by rw [HL.out]; exact hjn) (by rw [HFY.out]; exact hyw))
                  have HLN : Hid ((ers cur j).length = n) := Lib.hid (by rw [ers_len]; exact HL.out)
                  have hyl : ¬ yw ≥ 1048576 := by omega
                  have u0 := (hat (j * 3)).2.1
                  have u2 := (hat (j * 3 + 2)).2.1
                  have K1 := (hat (j * 3)).2.2 (.int .i64 0)
                  obtain ⟨g', hg', _, hat2⟩ := K1.rowAt 1 rfl (by omega)
                  cases hg'
                  have K2 := (hat2 (j * 3 + 2)).2.2 (.int .i64 (yw + 1))
                  rw [ers_cells hy] at K2
                  have HK : Hid (Sep w ((w3.setCell ⟨g2, j * 3, none⟩ (.int .i64 0)).setCell ⟨g2, j * 3 + 2, none⟩ (.int .i64 (yw + 1))) [sR A1 k c1 ch, .row 34 3 (.slice (some ⟨g2, 0, none⟩) n c2) n ((ers cur j).flatMap Fm.cells)]) := Lib.hid K2
                  clear HP HOK hat hat2 K1 K2 hy hfy
                  go_upto_region 13 with (fail)
                  clear d0 d2 u0 u2
                  generalize (w3.setCell ⟨g2, j * 3, none⟩ (.int .i64 0)).setCell ⟨g2, j * 3 + 2, none⟩ (.int .i64 (yw + 1)) = w5 at HK ⊢
                  have hnew := Lib.hid (Rd.of_own (own_new w5 3 #[.int .i64 (j : Int)] 1 1 rfl (by simp [maxLen]) (Nat.le_refl _)))
                  go_wp2_with (at_builtin; refine wpList_append_sep (HK.out.alloc _) 0 rfl (.tmp 69) (.tmp 71) 37 rfl 3 ti (.int .i64 0) 1 8 Try.underlying37 hti t0 t1 t2 rfl (by omega) _ k _ rfl rfl _ _ 1 1 _ rfl hnew.out (by simp [Value.oneCell']) (by simp only [maxLen]; omega) (by omega) ?_; intro A7 c7 w7 hc7 hs7 H7'; have H7 := Lib.hid H7'; clear H7')
                  go_roundg (T - (k + 1))
                  case measure => omega
                  case rel =>
                    refine ⟨k + 1, ch ++ [j], ers cur j, A7, c7, by omega, rfl, by rw [List.length_append, HCL.out]; rfl, rfl, HLN, HOKN, HPN, ?_⟩
                    have h := H7.out
                    unfold sR
                    rw [List.flatMap_append]
                    exact h
              · have HFP : Hid (Pl sp T l ch cur) := Lib.hid (by
                  have h := HP.out [] cur (by rw [HRR.out]; exact .none r cur kk er HW.out he)
                  rwa [List.append_nil] at h)
                have hz : (er == 0) = false := by simpa using he
                clear HP
                go_wp2
                refine bodyPost_ret (v := .tuple #[.slice A1 k c1, .slice A2 n c2, .int .i64 0]) (by simp [results, Try.results18]) rfl ?_
                refine ⟨A1, _, c1, c2, ch, cur, 0, by rw [HCL.out, HL.out], .ok HCE.out.symm _ rfl hT ch cur HFP.out, by rw [HCL.out]; omega, by rw [HL.out]; omega, ?_, ?_, HS3.out.below⟩
                · rw [HCL.out]; exact HS3.out.rd 0 rfl
                · rw [HL.out]; exact HS3.out.rd 1 rfl
            · obtain rfl : k = T := by omega
              have HFP : Hid (Pl sp k l ch cur) := Lib.hid (by
                have h := HP.out [] cur (by rw [Nat.sub_self]; exact .stop cur)
                rwa [List.append_nil] at h)
              clear HP
              go_wp2
              refine bodyPost_ret (v := .tuple #[.slice A1 k c1, .slice A2 n c2, .int .i64 0]) (by simp [results, Try.results18]) rfl ?_
              refine ⟨A1, _, c1, c2, ch, cur, 0, by rw [HCL.out, HL.out], .ok HCE.out.symm _ rfl hT ch cur HFP.out, by rw [HCL.out]; omega, by rw [HL.out]; omega, ?_, ?_, HS.out.below⟩
              · rw [HCL.out]; exact HS.out.rd 0 rfl
              · rw [HL.out]; exact HS.out.rd 1 rfl
  · have hck := hck.1 h0
    obtain ⟨rfl, he3⟩ := hck
    have HRS : Hid (Res l sp tm [] [] er) := Lib.hid (by rw [HCE.out]; exact .bad (by rw [← HCE.out]; exact h0))
    have hz : (er != 0) = true := by simpa using h0
    have hz3 : (er != 3) = true := by simpa using he3
    clear hck
    go_wp2
    refine bodyPost_ret (v := .tuple #[.slice none 0 0, .slice none 0 0, .int .i64 er]) (by simp [results, Try.results18]) rfl ?_
    exact PRet.none_ HRS.out HB1.out
end Vic
end Go.Proofs.Ytfljbiobiobamab
