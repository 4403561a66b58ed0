/-
  Walk of the reference's URepair. Conditions: none beyond each theorem's own premises.
-/
import Derived.Test.YtfljbiobiobamabFsW
import Derived.Test.YtfljbiobiobamabMap
namespace Go.Proofs.Ytfljbiobiobamab
open Go.RowKit
set_option linter.unusedVariables false
namespace Fs

theorem claim_info : (Try.prog.info? 67).map (fun i => (i.zero, i.size, i.bytes)) = some (some (.agg #[.int .i64 0, .slice none 0 0]), 2, 32) := by kernel_rfl
theorem int_info : (Try.prog.info? 3).map (fun i => (i.zero, i.size, i.bytes)) = some (some (.int .i64 0), 1, 8) := by kernel_rfl
def Cm.row (x : Cm) : It := .row 3 1 (.slice x.A x.n x.c) x.n (x.bs.flatMap icell)
theorem Row.read {w : World} {E n c : Nat} {A : Option Addr} {bs : List Int} (h : Row w E 1 (.slice A n c) n (bs.flatMap icell)) : Rd w w.heap.size 1 A n (bs.flatMap icell) ∧ bs.length = n ∧ n ≤ maxLen := by
  have h1 := h.1
  rw [flat_len icell_len] at h1
  refine ⟨Row.rd h, by omega, ?_⟩
  rcases h.2 with ⟨h0, _⟩ | ⟨_, cap, _, _, _, h2, h3, _⟩
  · omega
  · omega
theorem CL_of {w0 w : World} {A : Option Addr} {N c : Nat} {outs : List Cm} {J : List It} (H : Sep w0 w (.row 67 2 (.slice A N c) N (outs.flatMap Cm.cells) :: (outs.map Cm.row ++ J))) : CL w A N outs := by
  have h0 := H.rowHas 0 rfl
  have h1 := h0.1
  rw [flat_len Cm.len] at h1
  refine ⟨Row.rd h0, by omega, fun x hx => ?_⟩
  obtain ⟨k, hk⟩ := List.getElem?_of_mem hx
  have hlt := (List.getElem?_eq_some_iff.1 hk).1
  have h2 := H.rowHas (k + 1) (E := 3) (size := 1) (n := x.n) (v := .slice x.A x.n x.c) (xs := x.bs.flatMap icell) (by
    rw [List.getElem?_cons_succ, List.getElem?_append_left (by rw [List.length_map]; exact hlt), List.getElem?_map, hk]
    rfl)
  exact Row.read h2
theorem flat_p_snoc (outs : List Cm) (y : Cm) : flat ((outs ++ [y]).map Cm.p) = flat (outs.map Cm.p) ++ y.bs := by
  rw [List.map_append]
  exact flat_snoc _ _
theorem CL_of1 {w0 w : World} {A : Option Addr} {N c : Nat} {outs : List Cm} {J : List It} {f : Int} {A2 : Option Addr} {m c2 : Nat} {cur : List Int} (H : Sep w0 w (.row 67 2 (.slice A N c) N (outs.flatMap Cm.cells ++ [.int .i64 f, .slice A2 m c2]) :: ((outs.map Cm.row ++ [.row 3 1 (.slice A2 m c2) m (cur.flatMap icell)]) ++ J))) :
    CL w A N (outs ++ [⟨f, A2, m, c2, cur⟩]) := by
  refine CL_of (w0 := w0) (c := c) (J := J) ?_
  rw [List.flatMap_append, List.map_append]
  exact H
theorem sub_mid {R X Y : It} (F : List It) : (R :: (F ++ [Y])).Sublist ((R :: (F ++ [X])) ++ [Y]) := by
  rw [List.cons_append, List.append_assoc]
  exact List.Sublist.cons_cons _ (List.Sublist.append_left (List.sublist_cons_self _ _) _)
theorem at_mid {R X : It} (F : List It) {k : Nat} (h : F.length = k) : (R :: (F ++ [X]))[k + 1]? = some X := by
  subst h
  simp
theorem set_mid {R X Y : It} (F : List It) {k : Nat} (h : F.length = k) : (R :: (F ++ [X])).set (k + 1) Y = R :: (F ++ [Y]) := by
  subst h
  simp
theorem set_cell {pre : List Value} {a b u : Value} {k : Nat} (h : pre.length = k * 2) : (pre ++ [a, b]).set (k * 2 + 1) u = pre ++ [a, u] := by
  rw [← h]
  simp
theorem get_cell {pre : List Value} {a b : Value} {k : Nat} (h : pre.length = k * 2) : (pre ++ [a, b])[k * 2 + 1]? = some b := by
  rw [← h]
  simp

/-- what Repair's and URepair's results hold -/
def RepRet (w : World) (R : List (Int × List Int)) (M : List Int) (A : Option Addr) (n : Nat) (A' : Option Addr) (n' : Nat) (w' : World) : Prop :=
  Below w.heap.size w w' ∧ (∃ outs : List Cm, CL w' A n outs ∧ outs.map Cm.p = R) ∧ Rd w' w'.heap.size 1 A' n' (M.flatMap icell) ∧ M.length = n'

set_option maxRecDepth 100000 in
set_option maxHeartbeats 3200000 in
theorem urepair_any (Z : Nat) (A : Option Addr) (n c : Nat) (l : List Cm) (w : World) (hr : CL w A n l) (hn : n ≤ 400) (hZ : Z ≤ 4096) :
    Calls Try.prog 23 #[.int .i64 (Z : Int), .slice A n c] w (fun e w' => ∃ A' n' c' A2 n2 c2, e = .returned (.tuple #[.slice A' n' c', .slice A2 n2 c2]) ∧ RepRet w (rep (Z : Int) [] (l.map Cm.p)) (marks (flat (rep (Z : Int) [] (l.map Cm.p))) Z) A' n' A2 n2 w') := by
  obtain ⟨ti, hti, t0, t1, t2⟩ := info_parts claim_info
  obtain ⟨i0, hi, hz0, hz1, hz2⟩ := info_parts int_info
  have HR := Lib.hid hr
  clear hr
  go_enter Try.func23, Try.ntmps23
  go_wp2
  go_loopg [6, 16] n (fun g v6 i wr => ∃ (k : Nat) (outs : List Cm) (A6 : Option Addr) (c6 : Nat), k ≤ n ∧ g = n - k ∧ v6 = .slice A6 k c6 ∧ i = .int .i64 k ∧ Hid (outs.length = k) ∧ Hid (RTo (Z : Int) (l.map Cm.p) k (outs.map Cm.p)) ∧ Hid (Good (Z : Int) (flat (outs.map Cm.p))) ∧ Sep w wr (.row 67 2 (.slice A6 k c6) k (outs.flatMap Cm.cells) :: outs.map Cm.row))
  case atStart => exact ⟨0, [], none, 0, Nat.zero_le _, rfl, rfl, rfl, Lib.hid rfl, Lib.hid (RTo.zero _ _), Lib.hid (Good.nil _), (Sep.nil_ w).nilRow 67 2 none⟩
  case round =>
    obtain ⟨k, outs, A6, c6, hk, rfl, rfl, rfl, HOL, HRT, HG, hs⟩ := hrel
    have HS := Lib.hid hs
    clear hs
    by_cases hlt : k < n
    · obtain ⟨b, off, rfl, hb, hc⟩ := HR.out.rd.at_ Cm.len (by omega)
      obtain ⟨x, hx⟩ : ∃ x, l[k]? = some x := ⟨_, List.getElem?_eq_getElem (by rw [HR.out.len]; exact hlt)⟩
      obtain ⟨c0, c1⟩ := Cm.facts hb HS.out.below hc hx
      have HQ := Lib.hid (HR.out.ok x (List.mem_of_getElem? hx))
      have HX : Hid ((l.map Cm.p)[k]? = some x.p) := Lib.hid (by rw [List.getElem?_map, hx]; rfl)
      clear hc hx
      obtain ⟨f, Ax, nx, cx, bs⟩ := x
      simp only at c0 c1
      go_upto_region 5 with (fail)
      have HS1 : Hid (Sep w (wr.alloc (.cells #[.int .i64 f, .slice Ax nx cx] 67)) (.row 67 2 (.slice A6 k c6) k (outs.flatMap Cm.cells) :: (outs.map Cm.row ++ [.cells wr.heap.size 67 [.int .i64 f, .slice Ax nx cx]]))) := Lib.hid (HS.out.new 67 [.int .i64 f, .slice Ax nx cx])
      generalize wr.alloc (.cells #[.int .i64 f, .slice Ax nx cx] 67) = wo at HS1 ⊢
      generalize wr.heap.size = gb at HS1 ⊢
      clear c0 c1 HS
      have hFL : Hid ((outs.map Cm.row).length = k) := Lib.hid (by rw [List.length_map]; exact HOL.out)
      have hPL : Hid ((outs.flatMap Cm.cells).length = k * 2) := Lib.hid (by rw [flat_len Cm.len, HOL.out])
      have d0 := HS1.out.cell (k + 1) (at_mid _ hFL.out) (k := 0) rfl
      have hnew := Lib.hid (Rd.of_own (own_new wo 67 #[.int .i64 f, .slice none 0 0] 2 1 rfl (by simp [maxLen]) (Nat.le_refl _)))
      go_wp2_with (at_builtin; refine wpList_append_sep (HS1.out.alloc _) 0 rfl (.tmp 20) (.tmp 24) 43 rfl 67 ti (.agg #[.int .i64 0, .slice none 0 0]) 2 32 Try.underlying43 hti t0 t1 t2 rfl (by omega) _ k _ rfl rfl _ _ 1 1 _ rfl hnew.out (by simp [Value.oneCell']) (by simp only [maxLen]; omega) (by omega) ?_; intro A7 c7 w6 hc7 hs7 H7'; have H7 := Lib.hid H7'; have d1 := H7'.cell (k + 1) (at_mid _ hFL.out) (k := 1) rfl; clear H7' d0)
      have HS3 : Hid (Sep w w6 (.row 67 2 (.slice A7 (k + 1) c7) (k + 1) (outs.flatMap Cm.cells ++ [.int .i64 f, .slice none 0 0]) :: (outs.map Cm.row ++ [.row 3 1 (.slice none 0 0) 0 []]))) := Lib.hid ((H7.out.nilRow 3 1 none).sub (sub_mid _))
      clear H7 d1 HS1 hnew hc7 hs7
      obtain ⟨N, hN⟩ : ∃ N, N = k + 1 := ⟨_, rfl⟩
      rw [← hN] at HS3 ⊢
      have HN := Lib.hid hN
      have hNn : N ≤ 400 := by omega
      clear hN
      obtain ⟨q1, q2, q3⟩ := HQ.out
      simp only at q1 q2 q3
      have HQ1 := Lib.hid q1
      have HQ2 := Lib.hid q2
      simp only [maxLen] at q3
      clear q1 q2 HQ
      go_loopg [29] nx (fun g i wr => ∃ (j : Nat) (cur : List Int) (A2 : Option Addr) (m c2 : Nat), j ≤ nx ∧ g = nx - j ∧ i = .int .i64 j ∧ Hid (cur.length = m) ∧ Hid (KTo (Z : Int) (flat (outs.map Cm.p)) bs j cur) ∧ Hid (Good (Z : Int) (flat (outs.map Cm.p) ++ cur)) ∧ Sep w wr (.row 67 2 (.slice A7 N c7) N (outs.flatMap Cm.cells ++ [.int .i64 f, .slice A2 m c2]) :: (outs.map Cm.row ++ [.row 3 1 (.slice A2 m c2) m (cur.flatMap icell)])))
      case atStart => exact ⟨0, [], none, 0, 0, Nat.zero_le _, rfl, rfl, Lib.hid rfl, Lib.hid (KTo.zero _ _ _), Lib.hid (by rw [List.append_nil]; exact HG.out), HS3.out⟩
      case round =>
        clear HS3
        obtain ⟨j, cur, A2, m, c2, hj, rfl, rfl, HCL, HK, HGD, hs⟩ := hrel
        have HS := Lib.hid hs
        clear hs
        have HML : Hid (m ≤ 4096) := Lib.hid (by have := HGD.out.len (by omega); rw [List.length_append] at this; have := HCL.out; omega)
        by_cases hlt2 : j < nx
        · obtain ⟨b2, off2, rfl, hb2, hc2⟩ := HQ1.out.at_ icell_len (by omega)
          obtain ⟨y, hy⟩ : ∃ y, bs[j]? = some y := ⟨_, List.getElem?_eq_getElem (by rw [HQ2.out]; exact hlt2)⟩
          have e0 := ifact hb2 HS.out.below hc2 hy
          have HY := Lib.hid hy
          clear hc2 hy
          by_cases h0 : y ≥ 0
          · by_cases h1 : y < (Z : Int)
            · have hCL := CL_of1 (J := []) (by rw [List.append_nil]; exact HS.out)
              obtain ⟨q, hq⟩ : ∃ q : Nat, q = cnt ((outs ++ [(⟨f, A2, m, c2, cur⟩ : Cm)]).map Cm.p) y := ⟨_, rfl⟩
              have HQE : Hid (q = (flat (outs.map Cm.p) ++ cur).count y) := Lib.hid (by rw [hq, cnt, flat_p_snoc])
              have hqb : q ≤ 4096 := by
                rw [HQE.out]
                exact Nat.le_trans List.count_le_length (HGD.out.len (by omega))
              have cC := Lib.hid (count_any A7 N c7 _ y wr hCL (by omega) (by rw [← hq]; omega))
              rw [← hq] at cC
              clear hq hCL
              cases hq0 : ((q : Int) == 0) with
              | true =>
                have HNM : Hid (y ∉ flat (outs.map Cm.p) ++ cur) := Lib.hid (by
                  have h2 : q = 0 := by simpa using hq0
                  rw [HQE.out] at h2
                  exact List.count_eq_zero.1 h2)
                go_wp2_with fail
                refine cC.out.mono ?_; rintro en w1 ⟨rfl, hb1⟩
                have HS2 := Lib.hid (HS.out.later hb1)
                clear HS cC e0 hb1
                obtain ⟨g, rfl, _, hat⟩ := HS2.out.rowAt 0 rfl (by have := HN.out; omega)
                have e1 := (hat (k * 2 + 1)).1 _ (get_cell hPL.out)
                clear hat
                have m1 : (N : Int) - 1 = (k : Int) := by have := HN.out; omega
                have m2 : (0 : Int) ≤ (k : Int) := by omega
                have m3 : k < N := by have := HN.out; omega
                have hm4 := HML.out
                have hnew := Lib.hid (Rd.of_own (own_new w1 3 #[.int .i64 y] 1 1 rfl (by simp [maxLen]) (Nat.le_refl _)))
                have HI : Hid ((.row 67 2 (.slice (some ⟨g, 0, none⟩) N c7) N (outs.flatMap Cm.cells ++ [.int .i64 f, .slice A2 m c2]) :: (outs.map Cm.row ++ [.row 3 1 (.slice A2 m c2) m (cur.flatMap icell)]) : List It)[k + 1]? = some (.row 3 1 (.slice A2 m c2) m (cur.flatMap icell))) := Lib.hid (at_mid _ hFL.out)
                go_wp2_with (at_builtin; refine wpList_append_sep (HS2.out.alloc _) (k + 1) rfl (.tmp 55) (.tmp 57) 37 rfl 3 i0 (.int .i64 0) 1 8 Try.underlying37 hi hz0 hz1 hz2 rfl (by omega) _ m _ rfl HI.out _ _ 1 1 _ rfl hnew.out (by simp [Value.oneCell']) (by simp only [maxLen]; omega) (by omega) ?_; intro A3 c3 w3 hc3 hs3 H3'; rw [set_mid _ hFL.out] at H3'; have H3 := Lib.hid H3'; obtain ⟨g', hg', _, hat⟩ := H3'.rowAt 0 rfl (by omega); cases hg'; have v0 := (hat (k * 2 + 1)).2.1; have v1 := (hat (k * 2 + 1)).1 _ (get_cell hPL.out); clear H3' hat)
                have HS4 : Hid (Sep w (w3.setCell ⟨g, k * 2 + 1, none⟩ (.slice A3 (m + 1) c3)) (.row 67 2 (.slice (some ⟨g, 0, none⟩) N c7) N (outs.flatMap Cm.cells ++ [.int .i64 f, .slice A3 (m + 1) c3]) :: (outs.map Cm.row ++ [.row 3 1 (.slice A3 (m + 1) c3) (m + 1) ((cur ++ [y]).flatMap icell)]))) := Lib.hid (by
                  obtain ⟨g', hg', _, hat⟩ := H3.out.rowAt 0 rfl (by omega)
                  cases hg'
                  have := (hat (k * 2 + 1)).2.2 (.slice A3 (m + 1) c3)
                  rw [set_cell hPL.out] at this
                  rw [List.flatMap_append]
                  exact this)
                clear H3 v0 v1 e1 HS2 hnew HI
                go_roundg (nx - (j + 1))
                case measure => omega
                case rel => exact ⟨j + 1, cur ++ [y], A3, m + 1, c3, by omega, rfl, by go_num, Lib.hid (by rw [List.length_append, HCL.out]; rfl), Lib.hid (HK.out.yes HY.out ⟨h0, h1, HNM.out⟩), Lib.hid (by rw [← List.append_assoc]; exact HGD.out.snoc ⟨h0, h1, HNM.out⟩), HS4.out⟩
              | false =>
                have HNM : Hid (¬ (0 ≤ y ∧ y < (Z : Int) ∧ y ∉ flat (outs.map Cm.p) ++ cur)) := Lib.hid (fun h => by
                  have h2 : ¬ q = 0 := by simpa using hq0
                  rw [HQE.out] at h2
                  exact h2 (List.count_eq_zero.2 h.2.2))
                go_wp2_with fail
                refine cC.out.mono ?_; rintro en w1 ⟨rfl, hb1⟩
                have HS2 := Lib.hid (HS.out.later hb1)
                clear HS cC e0 hb1
                go_wp2
                go_roundg (nx - (j + 1))
                case measure => omega
                case rel => exact ⟨j + 1, cur, A2, m, c2, by omega, rfl, by go_num, HCL, Lib.hid (HK.out.no HY.out HNM.out), HGD, HS2.out⟩
            · go_wp2
              go_roundg (nx - (j + 1))
              case measure => omega
              case rel => exact ⟨j + 1, cur, A2, m, c2, by omega, rfl, by go_num, HCL, Lib.hid (HK.out.no HY.out (fun h => by have := h.2.1; omega)), HGD, HS.out⟩
          · go_wp2
            go_roundg (nx - (j + 1))
            case measure => omega
            case rel => exact ⟨j + 1, cur, A2, m, c2, by omega, rfl, by go_num, HCL, Lib.hid (HK.out.no HY.out (fun h => by have := h.1; omega)), HGD, HS.out⟩
        · have HKE : Hid (cur = keepB (Z : Int) (flat (outs.map Cm.p)) bs) := Lib.hid (by
            have := HK.out
            rw [show j = bs.length by rw [HQ2.out]; omega] at this
            exact this.done)
          go_wp2
          go_roundg (n - (k + 1))
          case measure => omega
          case rel =>
            refine ⟨k + 1, outs ++ [⟨f, A2, m, c2, cur⟩], A7, c7, by omega, rfl, by rw [HN.out], by go_num, Lib.hid (by rw [List.length_append, HOL.out]; rfl), Lib.hid ?_, Lib.hid ?_, ?_⟩
            · have := HRT.out.next HX.out
              rw [List.map_append]
              simp only [Cm.p, List.map_cons, List.map_nil] at this ⊢
              rw [HKE.out]
              exact this
            · rw [flat_p_snoc]
              exact HGD.out
            · rw [List.flatMap_append, List.map_append, ← HN.out]
              exact HS.out
    · have HRE : Hid (outs.map Cm.p = rep (Z : Int) [] (l.map Cm.p)) := Lib.hid (by
        have := HRT.out
        rw [show k = (l.map Cm.p).length by rw [List.length_map, HR.out.len]; omega] at this
        exact this.done)
      generalize hK : flat (outs.map Cm.p) = K at HG
      have HKK := Lib.hid hK
      clear hK HRT HR
      obtain ⟨wo, hwo⟩ : ∃ wo : World, wo = wr := ⟨_, rfl⟩
      rw [← hwo] at HS ⊢
      clear hwo wr
      go_wp2
      go_loopg [12, 64] Z (fun g v i wr => ∃ (a m : Nat) (A2 : Option Addr) (c2 : Nat), a ≤ Z ∧ g = Z - a ∧ v = .slice A2 m c2 ∧ i = .int .i64 a ∧ Hid ((marks K a).length = m) ∧ Sep w wr (.row 67 2 (.slice A6 k c6) k (outs.flatMap Cm.cells) :: (outs.map Cm.row ++ [.row 3 1 (.slice A2 m c2) m ((marks K a).flatMap icell)])))
      case atStart => exact ⟨0, 0, none, 0, Nat.zero_le _, rfl, rfl, rfl, Lib.hid rfl, HS.out.nilRow 3 1 none⟩
      case round =>
        clear HS wo
        obtain ⟨a, m, A2, c2, ha, rfl, rfl, rfl, HML, hs⟩ := hrel
        have HS := Lib.hid hs
        clear hs
        by_cases hlt2 : a < Z
        · obtain ⟨q, hq⟩ : ∃ q : Nat, q = cnt (outs.map Cm.p) (a : Int) := ⟨_, rfl⟩
          have HQE : Hid (q = K.count (a : Int)) := Lib.hid (by rw [hq, cnt, HKK.out])
          have hqb : q ≤ 4096 := by
            rw [HQE.out]
            exact Nat.le_trans List.count_le_length (HG.out.len (by omega))
          have cC := Lib.hid (count_any A6 k c6 _ (a : Int) wr (CL_of HS.out) (by omega) (by rw [← hq]; omega))
          rw [← hq] at cC
          clear hq
          by_cases hq0 : (q : Int) > 0
          · have HIN : Hid ((a : Int) ∈ K) := Lib.hid (List.count_pos_iff.1 (by rw [← HQE.out]; omega))
            have hm4 : m ≤ a := by rw [← HML.out]; exact marks_len K a
            go_wp2_with fail
            refine cC.out.mono ?_; rintro en w1 ⟨rfl, hb1⟩
            have HS2 := Lib.hid (HS.out.later hb1)
            clear HS cC hb1
            have hFL : Hid ((outs.map Cm.row).length = k) := Lib.hid (by rw [List.length_map]; exact HOL.out)
            have hnew := Lib.hid (Rd.of_own (own_new w1 3 #[.int .i64 (a : Int)] 1 1 rfl (by simp [maxLen]) (Nat.le_refl _)))
            go_wp2_with (at_builtin; refine wpList_append_sep (HS2.out.alloc _) (k + 1) rfl (.tmp 71) (.tmp 73) 37 rfl 3 i0 (.int .i64 0) 1 8 Try.underlying37 hi hz0 hz1 hz2 rfl (by omega) _ m _ rfl (at_mid _ hFL.out) _ _ 1 1 _ rfl hnew.out (by simp [Value.oneCell']) (by simp only [maxLen]; omega) (by omega) ?_; intro A3 c3 w3 hc3 hs3 H3'; rw [set_mid _ hFL.out] at H3'; have H3 := Lib.hid H3'; clear H3')
            go_roundg (Z - (a + 1))
            case measure => omega
            case rel =>
              refine ⟨a + 1, m + 1, A3, c3, by omega, rfl, rfl, by go_num, Lib.hid (by rw [marks_yes HIN.out, List.length_append, HML.out]; rfl), ?_⟩
              rw [marks_yes HIN.out, List.flatMap_append]
              exact H3.out
          · have HIN : Hid ((a : Int) ∉ K) := Lib.hid (fun h => by have := List.count_pos_iff.2 h; rw [← HQE.out] at this; omega)
            go_wp2_with fail
            refine cC.out.mono ?_; rintro en w1 ⟨rfl, hb1⟩
            have HS2 := Lib.hid (HS.out.later hb1)
            clear HS cC hb1
            go_wp2
            go_roundg (Z - (a + 1))
            case measure => omega
            case rel =>
              refine ⟨a + 1, m, A2, c2, by omega, rfl, rfl, by go_num, Lib.hid (by rw [marks_no HIN.out, HML.out]), ?_⟩
              rw [marks_no HIN.out]
              exact HS2.out
        · obtain rfl : a = Z := by omega
          go_wp2
          refine bodyPost_ret (v := .tuple #[.slice A6 k c6, .slice A2 m c2]) (by simp [results, Try.results23]) rfl ?_
          refine ⟨A6, k, c6, A2, m, c2, rfl, ?_⟩
          rw [← HRE.out, HKK.out]
          have hFL : (outs.map Cm.row).length = k := by rw [List.length_map]; exact HOL.out
          exact ⟨HS.out.below, ⟨outs, CL_of HS.out, rfl⟩, HS.out.rd (k + 1) (at_mid _ hFL), HML.out⟩
end Fs
end Go.Proofs.Ytfljbiobiobamab
