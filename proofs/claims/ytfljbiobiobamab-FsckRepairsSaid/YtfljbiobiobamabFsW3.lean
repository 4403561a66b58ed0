/-
  Walk of fsck.Repair. Conditions: none beyond each theorem's own premises.
-/
import Derived.Test.YtfljbiobiobamabFsW2
import Derived.Test.YtfljbiobiobamabFsK
namespace Go.Proofs.Ytfljbiobiobamab
open Go.RowKit
set_option linter.unusedVariables false
namespace Fs

def hOf (K : List Int) : Int → Option Bool := fun x => if x ∈ K then some true else none
theorem hOf_nil : hOf [] = mno := by funext x; simp [hOf, mno]
theorem hOf_snoc (K : List Int) (b : Int) : mup (hOf K) b true = hOf (K ++ [b]) := by
  funext x
  unfold mup hOf
  by_cases h : x = b
  · subst h; simp
  · simp [h]
theorem hOf_mem (K : List Int) (x : Int) : x ∈ K ↔ (hOf K x).isSome = true := by
  unfold hOf
  by_cases h : x ∈ K <;> simp [h]
theorem at_tl {R X : It} (F T : List It) {k j i : Nat} (h : F.length = k) (hj : j = k + 1 + i) (hT : T[i]? = some X) : (R :: (F ++ T))[j]? = some X := by
  subst h hj
  rw [show F.length + 1 + i = (F.length + i) + 1 by omega, List.getElem?_cons_succ, List.getElem?_append_right (by omega), show F.length + i - F.length = i by omega]
  exact hT
theorem set_tl {R Y : It} (F T : List It) {k j i : Nat} (h : F.length = k) (hj : j = k + 1 + i) : (R :: (F ++ T)).set j Y = R :: (F ++ T.set i Y) := by
  subst h hj
  rw [show F.length + 1 + i = (F.length + i) + 1 by omega, List.set_cons_succ, List.set_append_right _ _ (by omega), show F.length + i - F.length = i by omega]
theorem bz (w : World) : (zeroValue 4).run Try.prog w = .ok (.bool false) w := by kernel_rfl
theorem kintF : KMk Try.prog 3 (Value.int .i64) (fun x => (Lit.int .i64 x).wf = true) := kmk_int Try.underlying3
def MI (g : Nat) (K : List Int) : It := .map Try.prog 3 (Value.int .i64) Value.bool g K.length (hOf K)
theorem wf_small {y : Int} {Z : Nat} (h0 : 0 ≤ y) (h1 : y < (Z : Int)) (hZ : Z ≤ 4096) : (Lit.int .i64 y).wf = true := by
  simp [Lit.wf, IntKind.min, IntKind.max, IntKind.signed, IntKind.bits]
  omega

set_option maxRecDepth 100000 in
set_option maxHeartbeats 3200000 in
theorem repair_bad (z : Int) (A A' : Option Addr) (n c n' c' : Nat) (ms : List Int) (w : World) (hr : Rd w w.heap.size 1 A' n' (ms.flatMap icell)) (hl : ms.length = n') (hn : n' ≤ 9223372036854775807) (hb : (okB z n && rightF z (-1) ms) = false) :
    Calls Try.prog 21 #[.int .i64 z, .slice A n c, .slice A' n' c'] w (fun e w' => e = .returned (.tuple #[.slice none 0 0, .slice none 0 0, .int .i64 1]) ∧ Below w.heap.size w w') := by
  have cR := right_any z A' A n c n' c' ms w hr hl hn
  rw [hb] at cR
  have HC := Lib.hid cR
  clear cR hr hl
  go_enter Try.func21, Try.ntmps21
  go_wp2_with fail
  refine HC.out.mono ?_; rintro en w1 ⟨rfl, hb1⟩
  clear HC
  go_wp2
  refine bodyPost_ret (v := .tuple #[.slice none 0 0, .slice none 0 0, .int .i64 1]) (by simp [results, Try.results21]) rfl ?_
  exact ⟨rfl, hb1⟩

set_option maxRecDepth 100000 in
set_option maxHeartbeats 3200000 in
theorem repair_ok (Z : Nat) (A A' : Option Addr) (n c n' c' : Nat) (ms : List Int) (l : List Cm) (w : World) (hr' : Rd w w.heap.size 1 A' n' (ms.flatMap icell)) (hl' : ms.length = n') (hn' : n' ≤ 9223372036854775807) (hb : (okB (Z : Int) n && rightF (Z : Int) (-1) ms) = true)
    (hr : CL w A n l) (hn : n ≤ 400) (hZ : Z ≤ 4096) :
    Calls Try.prog 21 #[.int .i64 (Z : Int), .slice A n c, .slice A' n' c'] w (fun e w' => ∃ A1 n1 c1 A2 n2 c2, e = .returned (.tuple #[.slice A1 n1 c1, .slice A2 n2 c2, .int .i64 0]) ∧ RepRet w (rep (Z : Int) [] (l.map Cm.p)) (marks (flat (rep (Z : Int) [] (l.map Cm.p))) Z) A1 n1 A2 n2 w') := by
  have cR := right_any (Z : Int) A' A n c n' c' ms w hr' hl' hn'
  rw [hb] at cR
  have HC := Lib.hid cR
  have hmm := @run_makeMap Try.prog
  obtain ⟨ti, hti, t0, t1, t2⟩ := info_parts claim_info
  obtain ⟨i0, hi, hz0, hz1, hz2⟩ := info_parts int_info
  have HR0 := Lib.hid hr
  clear cR hr' hl' hr hb
  go_enter Try.func21, Try.ntmps21
  go_wp2_with fail
  refine HC.out.mono ?_; rintro en w1 ⟨rfl, hb1⟩
  clear HC
  have HW1 := Lib.hid hb1
  clear hb1
  go_wp2
  have HS0 : Hid (Sep w (w1.alloc (.map #[] 0)) [.row 67 2 (.slice none 0 0) 0 [], MI w1.heap.size []]) := Lib.hid (by
    have h := (((Sep.nil_ w).later HW1.out).newMap Try.prog 3 (Value.int .i64) Value.bool).nilRow 67 2 none
    rw [← hOf_nil] at h
    exact h.pick [1, 0] (by decide) (by simp))
  clear hmm HW1
  generalize w1.alloc (.map #[] 0) = wo at HS0 ⊢
  generalize w1.heap.size = gm at HS0 ⊢
  have HR := HR0
  clear HR0
  go_loopg [10, 24] n (fun g v6 i wr => ∃ (k : Nat) (outs : List Cm) (A6 : Option Addr) (c6 : Nat), k ≤ n ∧ g = n - k ∧ v6 = .slice A6 k c6 ∧ i = .int .i64 k ∧ Hid (outs.length = k) ∧ Hid (RTo (Z : Int) (l.map Cm.p) k (outs.map Cm.p)) ∧ Hid (Good (Z : Int) (flat (outs.map Cm.p))) ∧ Sep w wr (.row 67 2 (.slice A6 k c6) k (outs.flatMap Cm.cells) :: (outs.map Cm.row ++ [MI gm (flat (outs.map Cm.p))])))
  case atStart => exact ⟨0, [], none, 0, Nat.zero_le _, rfl, rfl, rfl, Lib.hid rfl, Lib.hid (RTo.zero _ _), Lib.hid (Good.nil _), HS0.out⟩
  case round =>
    clear HS0 wo
    obtain ⟨k, outs, A6, c6, hk, rfl, rfl, rfl, HOL, HRT, HG, hs⟩ := hrel
    have HS := Lib.hid hs
    clear hs
    by_cases hlt : k < n
    · obtain ⟨b, off, rfl, hb, hc⟩ := HR.out.rd.at_ Cm.len (by omega)
      obtain ⟨x, hx⟩ : ∃ x, l[k]? = some x := ⟨_, List.getElem?_eq_getElem (by rw [HR.out.len]; exact hlt)⟩
      obtain ⟨c0, c1⟩ := Cm.facts hb HS.out.below hc hx
      have HQ := Lib.hid (HR.out.ok x (List.mem_of_getElem? hx))
      have HX : Hid ((l.map Cm.p)[k]? = some x.p) := Lib.hid (by rw [List.getElem?_map, hx]; rfl)
      clear hc hx
      obtain ⟨f, Ax, nx, cx, bs⟩ := x
      simp only at c0 c1
      have hFL : Hid ((outs.map Cm.row).length = k) := Lib.hid (by rw [List.length_map]; exact HOL.out)
      generalize hK : flat (outs.map Cm.p) = K at HG HS
      have HKK := Lib.hid hK
      clear hK
      go_upto_region 8 with (fail)
      have HS1 : Hid (Sep w (wr.alloc (.cells #[.int .i64 f, .slice Ax nx cx] 67)) (.row 67 2 (.slice A6 k c6) k (outs.flatMap Cm.cells) :: (outs.map Cm.row ++ [MI gm K, .cells wr.heap.size 67 [.int .i64 f, .slice Ax nx cx]]))) := Lib.hid (by
        have h := HS.out.new 67 [.int .i64 f, .slice Ax nx cx]
        rw [List.cons_append, List.append_assoc] at h
        exact h)
      generalize wr.alloc (.cells #[.int .i64 f, .slice Ax nx cx] 67) = wo at HS1 ⊢
      generalize wr.heap.size = gb at HS1 ⊢
      clear c0 c1 HS
      have d0 := HS1.out.cell (k + 2) (at_tl _ _ hFL.out (i := 1) rfl rfl) (k := 0) rfl
      have d1 := HS1.out.cell (k + 2) (at_tl _ _ hFL.out (i := 1) rfl rfl) (k := 1) rfl
      go_upto_region 9 with (fail)
      have HS2 : Hid (Sep w (wo.alloc (.cells #[.int .i64 f, .slice none 0 0] 67)) (.row 67 2 (.slice A6 k c6) k (outs.flatMap Cm.cells) :: (outs.map Cm.row ++ [MI gm K, .cells gb 67 [.int .i64 f, .slice Ax nx cx], .cells wo.heap.size 67 [.int .i64 f, .slice none 0 0]]))) := Lib.hid (by
        have h := HS1.out.new 67 [.int .i64 f, .slice none 0 0]
        rw [List.cons_append, List.append_assoc] at h
        exact h)
      generalize wo.alloc (.cells #[.int .i64 f, .slice none 0 0] 67) = wp at HS2 ⊢
      generalize wo.heap.size = gx at HS2 ⊢
      clear d0 d1 HS1 wo
      have d1 := HS2.out.cell (k + 2) (at_tl _ _ hFL.out (i := 1) rfl rfl) (k := 1) rfl
      have HS3 : Hid (Sep w wp (.row 67 2 (.slice A6 k c6) k (outs.flatMap Cm.cells) :: (outs.map Cm.row ++ [MI gm K, .cells gx 67 [.int .i64 f, .slice none 0 0], .row 3 1 (.slice none 0 0) 0 []]))) := Lib.hid (by
        have h := HS2.out.nilRow 3 1 none
        rw [List.cons_append, List.append_assoc] at h
        refine h.sub (List.Sublist.cons_cons _ (List.Sublist.append_left ?_ _))
        exact List.Sublist.cons_cons _ (List.sublist_cons_self _ _))
      clear HS2
      obtain ⟨q1, q2, q3⟩ := HQ.out
      simp only at q1 q2 q3
      have HQ1 := Lib.hid q1
      have HQ2 := Lib.hid q2
      simp only [maxLen] at q3
      clear q1 q2 HQ
      go_wp2
      clear d1
      go_loopg [34] nx (fun g i wr => ∃ (j : Nat) (cur : List Int) (A2 : Option Addr) (m c2 : Nat), j ≤ nx ∧ g = nx - j ∧ i = .int .i64 j ∧ Hid (cur.length = m) ∧ Hid (KTo (Z : Int) K bs j cur) ∧ Hid (Good (Z : Int) (K ++ cur)) ∧ Sep w wr (.row 67 2 (.slice A6 k c6) k (outs.flatMap Cm.cells) :: (outs.map Cm.row ++ [MI gm (K ++ cur), .cells gx 67 [.int .i64 f, .slice A2 m c2], .row 3 1 (.slice A2 m c2) m (cur.flatMap icell)])))
      case atStart => exact ⟨0, [], none, 0, 0, Nat.zero_le _, rfl, rfl, Lib.hid rfl, Lib.hid (KTo.zero _ _ _), Lib.hid (by rw [List.append_nil]; exact HG.out), by rw [List.append_nil]; exact HS3.out⟩
      case round =>
        clear HS3 wp
        obtain ⟨j, cur, A2, m, c2, hj, rfl, rfl, HCL, HK, HGD, hs⟩ := hrel
        have HS := Lib.hid hs
        clear hs
        have HML : Hid (m ≤ 4096 ∧ (K ++ cur).length ≤ 4096) := Lib.hid (by have h := HGD.out.len (by omega); have h2 := h; rw [List.length_append] at h2; have := HCL.out; exact ⟨by omega, h⟩)
        by_cases hlt2 : j < nx
        · obtain ⟨b2, off2, rfl, hb2, hc2⟩ := HQ1.out.at_ icell_len (by omega)
          obtain ⟨y, hy⟩ : ∃ y, bs[j]? = some y := ⟨_, List.getElem?_eq_getElem (by rw [HQ2.out]; exact hlt2)⟩
          have e0 := ifact hb2 HS.out.below hc2 hy
          have HY := Lib.hid hy
          clear hc2 hy
          by_cases h0 : y ≥ 0
          · by_cases h1 : y < (Z : Int)
            · have hwf := wf_small h0 h1 hZ
              have hlk := HS.out.look (k + 1) (at_tl _ _ hFL.out (i := 0) rfl rfl) kintF hwf Try.underlying65 (bz wr)
              by_cases hin : y ∈ K ++ cur
              · have HIN := Lib.hid hin
                rw [show (hOf (K ++ cur) y).elim (Value.bool false) Value.bool = .bool true by unfold hOf; rw [if_pos hin]; rfl] at hlk
                clear hin hwf
                go_wp2
                go_roundg (nx - (j + 1))
                case measure => omega
                case rel => exact ⟨j + 1, cur, A2, m, c2, by omega, rfl, by go_num, HCL, Lib.hid (HK.out.no HY.out (fun h => h.2.2 HIN.out)), HGD, HS.out⟩
              · have HIN := Lib.hid hin
                have hno : hOf (K ++ cur) y = none := by unfold hOf; rw [if_neg hin]
                obtain ⟨w2, hst, hsz, h2⟩ := HS.out.store (k + 1) (at_tl _ _ hFL.out (i := 0) rfl rfl) kintF hwf Try.underlying65 (by have := HML.out.2; simp only [maxLen]; omega) true
                rw [hno] at hlk
                simp only [Option.elim_none] at hlk
                rw [set_tl _ _ hFL.out (i := 0) rfl, hOf_snoc, hno, List.append_assoc] at h2
                have HS2 : Hid (Sep w w2 (.row 67 2 (.slice A6 k c6) k (outs.flatMap Cm.cells) :: (outs.map Cm.row ++ [MI gm (K ++ (cur ++ [y])), .cells gx 67 [.int .i64 f, .slice A2 m c2], .row 3 1 (.slice A2 m c2) m (cur.flatMap icell)]))) := Lib.hid (by
                  rw [show MI gm (K ++ (cur ++ [y])) = .map Try.prog 3 (Value.int .i64) Value.bool gm ((K ++ cur).length + 1) (hOf (K ++ (cur ++ [y]))) by unfold MI; rw [← List.append_assoc, List.length_append (bs := [y])]; rfl]
                  exact h2)
                clear h2 hno hin hwf hsz
                go_upto_region 13 with (fail)
                go_upto_region 14 with (fail)
                clear HS e0 hlk hst
                have e1 := HS2.out.cell (k + 2) (at_tl _ _ hFL.out (i := 1) rfl rfl) (k := 1) rfl
                have hm4 := HML.out.1
                have hnew := Lib.hid (Rd.of_own (own_new w2 3 #[.int .i64 y] 1 1 rfl (by simp [maxLen]) (Nat.le_refl _)))
                go_wp2_with (at_builtin; refine wpList_append_sep (HS2.out.alloc _) (k + 3) rfl (.tmp 54) (.tmp 56) 37 rfl 3 i0 (.int .i64 0) 1 8 Try.underlying37 hi hz0 hz1 hz2 rfl (by omega) _ m _ rfl (at_tl _ _ hFL.out (i := 2) rfl rfl) _ _ 1 1 _ rfl hnew.out (by simp [Value.oneCell']) (by simp only [maxLen]; omega) (by omega) ?_; intro A3 c3 w3 hc3 hs3 H3'; rw [set_tl _ _ hFL.out (i := 2) rfl] at H3'; have H3 := Lib.hid H3'; have v0 := H3'.froz (k + 2) (at_tl _ _ hFL.out (i := 1) rfl rfl) (k := 1); have v1 := H3'.cell (k + 2) (at_tl _ _ hFL.out (i := 1) rfl rfl) (k := 1) rfl; clear H3')
                have HS4 : Hid (Sep w (w3.setCell ⟨gx, 1, none⟩ (.slice A3 (m + 1) c3)) (.row 67 2 (.slice A6 k c6) k (outs.flatMap Cm.cells) :: (outs.map Cm.row ++ [MI gm (K ++ (cur ++ [y])), .cells gx 67 [.int .i64 f, .slice A3 (m + 1) c3], .row 3 1 (.slice A3 (m + 1) c3) (m + 1) ((cur ++ [y]).flatMap icell)]))) := Lib.hid (by
                  have h := H3.out.set (k + 2) (at_tl _ _ hFL.out (i := 1) rfl rfl) (k := 1) (.slice A3 (m + 1) c3)
                  rw [set_tl _ _ hFL.out (i := 1) rfl] at h
                  rw [List.flatMap_append]
                  exact h)
                clear H3 v0 v1 e1 HS2 hnew
                go_roundg (nx - (j + 1))
                case measure => omega
                case rel => exact ⟨j + 1, cur ++ [y], A3, m + 1, c3, by omega, rfl, by go_num, Lib.hid (by rw [List.length_append, HCL.out]; rfl), Lib.hid (HK.out.yes HY.out ⟨h0, h1, HIN.out⟩), Lib.hid (by rw [← List.append_assoc]; exact HGD.out.snoc ⟨h0, h1, HIN.out⟩), HS4.out⟩
            · go_wp2
              go_roundg (nx - (j + 1))
              case measure => omega
              case rel => exact ⟨j + 1, cur, A2, m, c2, by omega, rfl, by go_num, HCL, Lib.hid (HK.out.no HY.out (fun h => by have := h.2.1; omega)), HGD, HS.out⟩
          · go_wp2
            go_roundg (nx - (j + 1))
            case measure => omega
            case rel => exact ⟨j + 1, cur, A2, m, c2, by omega, rfl, by go_num, HCL, Lib.hid (HK.out.no HY.out (fun h => by have := h.1; omega)), HGD, HS.out⟩
        · have HKE : Hid (cur = keepB (Z : Int) K bs) := Lib.hid (by
            have := HK.out
            rw [show j = bs.length by rw [HQ2.out]; omega] at this
            exact this.done)
          have e0 := HS.out.cell (k + 2) (at_tl _ _ hFL.out (i := 1) rfl rfl) (k := 0) rfl
          have e1 := HS.out.cell (k + 2) (at_tl _ _ hFL.out (i := 1) rfl rfl) (k := 1) rfl
          have hnew := Lib.hid (Rd.of_own (own_new wr 67 #[.int .i64 f, .slice A2 m c2] 2 1 rfl (by simp [maxLen]) (Nat.le_refl _)))
          go_wp2_with (at_builtin; refine wpList_append_sep (HS.out.alloc _) 0 rfl (.tmp 60) (.tmp 62) 43 rfl 67 ti (.agg #[.int .i64 0, .slice none 0 0]) 2 32 Try.underlying43 hti t0 t1 t2 rfl (by omega) _ k _ rfl rfl _ _ 1 1 _ rfl hnew.out (by simp [Value.oneCell']) (by simp only [maxLen]; omega) (by omega) ?_; intro A7 c7 w6 hc7 hs7 H7'; have H7 := Lib.hid H7'; clear H7' e0 e1)
          go_roundg (n - (k + 1))
          case measure => omega
          case rel =>
            refine ⟨k + 1, outs ++ [⟨f, A2, m, c2, cur⟩], A7, c7, by omega, rfl, rfl, by go_num, Lib.hid (by rw [List.length_append, HOL.out]; rfl), Lib.hid ?_, Lib.hid ?_, ?_⟩
            · have := HRT.out.next HX.out
              rw [List.map_append]
              simp only [Cm.p, List.map_cons, List.map_nil] at this ⊢
              rw [HKE.out, ← HKK.out]
              exact this
            · rw [flat_p_snoc, HKK.out]
              exact HGD.out
            · rw [List.flatMap_append, List.map_append, flat_p_snoc, HKK.out]
              have h : Sep w w6 (.row 67 2 (.slice A7 (k + 1) c7) (k + 1) (outs.flatMap Cm.cells ++ [.int .i64 f, .slice A2 m c2]) :: (outs.map Cm.row ++ [MI gm (K ++ cur), .cells gx 67 [.int .i64 f, .slice A2 m c2], .row 3 1 (.slice A2 m c2) m (cur.flatMap icell)])) := H7.out
              refine (h.sub (L' := .row 67 2 (.slice A7 (k + 1) c7) (k + 1) (outs.flatMap Cm.cells ++ [.int .i64 f, .slice A2 m c2]) :: (outs.map Cm.row ++ [MI gm (K ++ cur), .row 3 1 (.slice A2 m c2) m (cur.flatMap icell)])) ?_).perm ?_
              · exact List.Sublist.cons_cons _ (List.Sublist.append_left (List.Sublist.cons_cons _ (List.sublist_cons_self _ _)) _)
              · rw [List.append_assoc]
                exact List.Perm.cons _ (List.Perm.append_left _ (List.Perm.swap _ _ _))
    · have HRE : Hid (outs.map Cm.p = rep (Z : Int) [] (l.map Cm.p)) := Lib.hid (by
        have := HRT.out
        rw [show k = (l.map Cm.p).length by rw [List.length_map, HR.out.len]; omega] at this
        exact this.done)
      have hFL : Hid ((outs.map Cm.row).length = k) := Lib.hid (by rw [List.length_map]; exact HOL.out)
      generalize hK : flat (outs.map Cm.p) = K at HG HS
      have HKK := Lib.hid hK
      clear hK HRT HR
      have cK := Lib.hid (keys_any gm wr)
      have cS := Lib.hid (sorted_any w wr _ (k + 1) gm K.length (hOf K) HS.out (at_tl _ _ hFL.out (i := 0) rfl rfl) K Z HG.out (hOf_mem K) (HG.out.len (by omega)))
      go_wp2_with fail
      refine cK.out.mono ?_; rintro en w1 ⟨rfl, rfl⟩
      go_wp2_with fail
      refine cS.out.mono ?_; rintro en w2 ⟨A2, m, c2, rfl, hb2, hrd2, hml2⟩
      have HRD2 := Lib.hid hrd2
      have HML2 := Lib.hid hml2
      clear cK cS hrd2 hml2
      go_wp2
      refine bodyPost_ret (v := .tuple #[.slice A6 k c6, .slice A2 m c2, .int .i64 0]) (by simp [results, Try.results21]) rfl ?_
      refine ⟨A6, k, c6, A2, m, c2, rfl, ?_⟩
      rw [← HRE.out, HKK.out]
      have hS := HS.out.later hb2
      exact ⟨hS.below, ⟨outs, CL_of hS, rfl⟩, HRD2.out, HML2.out⟩
end Fs
end Go.Proofs.Ytfljbiobiobamab
