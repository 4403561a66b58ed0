/-
  slices.Delete and slices.Insert at gaps, over a row of the call's own. Conditions: none beyond each theorem's own premises.
-/
import Derived.Test.YtakmfjnfkjdbfaaSpW4
import Derived.Test.YtakmfjnfkjdbfaaDelIns
namespace Go.Proofs.Ytakmfjnfkjdbfaa
open Go.RowKit
set_option linter.unusedVariables false
theorem shape_of' {w : World} {g : Nat} {cur : Array Value} {E : TypeId} {p : Nat × Nat} (h : w.heap[g]? = some (.cells cur E p)) : w.shape? g = some (E, cur.size) := by
  unfold World.shape?
  rw [h]
namespace Sp
set_option maxRecDepth 100000 in
set_option maxHeartbeats 1600000 in
theorem delete_any (w0 w : World) (L : List It) (A : Option Addr) (m c i : Nat) (xs : List Value) (H : Sep w0 w (.row 50 2 (.slice A (m + 1) c) (m + 1) xs :: L)) (hi : i ≤ m) (hmc : m + 1 ≤ c) (hm : m + 1 ≤ 9223372036854775807) (h1 : ∀ u ∈ xs, u.oneCell' = true) :
    Calls Try.prog 65 #[.slice A (m + 1) c, .int .i64 (i : Int), .int .i64 ((i : Int) + 1)] w (fun e w' => e = .returned (.slice A m c) ∧ Sep w0 w' (.row 50 2 (.slice A m c) m (xs.take (i * 2) ++ xs.drop ((i + 1) * 2)) :: L)) := by
  obtain ⟨ti, hti, t0, t1, t2⟩ := info_parts gap_info
  obtain ⟨v, A2, A3, d, c2, c3, s0, s1, s2, s3, hS⟩ := strike_sep (P := Try.prog) H 0 (t := 37) Try.underlying37 hti t0 t1 rfl (by decide) (by omega) rfl hi hmc h1
  have HS := Lib.hid hS
  have HH := Lib.hid H
  clear H hS h1
  obtain ⟨n, hn⟩ : ∃ n, n = m + 1 := ⟨_, rfl⟩
  rw [← hn] at s0 s1 s2 s3 HH hmc hm ⊢
  have HN := Lib.hid hn
  have ne : ((i : Int) == (i : Int) + 1) = false := by simp; omega
  have ne2 : ¬ (i : Int) = (i : Int) + 1 := by omega
  clear hn
  go_enter Try.func65, Try.ntmps65
  go_upto_region 5 with (fail)
  (refine wp_region_tail 6 (by kernel_rfl) (by kernel_rfl) ?_; simp only [List.take_succ_cons, List.take_zero, List.drop_succ_cons, List.drop_zero]; repeat (go_big_quiet_step (fail)))
  refine wpQuiet_nil ?_; intro xw hw'; obtain ⟨xq, hw''⟩ := hw'; obtain ⟨xw0, xh⟩ := xq; change xw = xw0 at hw''; subst hw''
  obtain ⟨w2, w3, ha, hc, hs⟩ := HS.out xw xh
  have HS3 := Lib.hid hs
  clear hs
  go_wp2_with (first | (at_builtin; refine Lib.wpList_append_run _ rfl _ _ _ _ rfl _ _ rfl rfl _ _ (ha _) ?_))
  go_ret
  exact ⟨rfl, HS3.out⟩

set_option maxRecDepth 100000 in
set_option maxHeartbeats 3200000 in
theorem insert_any (w0 w : World) (L : List It) (A : Option Addr) (n c i gv : Nat) (xs v : List Value) (H : Sep w0 w (.row 50 2 (.slice A n c) n xs :: .cells gv 50 v :: L)) (hv : v.length = 2) (hv1 : ∀ u ∈ v, u.oneCell' = true) (h1 : ∀ u ∈ xs, u.oneCell' = true) (hi : i ≤ n) (hn : n ≤ 1048576) (hnc : n ≤ c) :
    Calls Try.prog 62 #[.slice A n c, .int .i64 (i : Int), .slice (some ⟨gv, 0, none⟩) 1 1] w (fun e w' => ∃ A' c', e = .returned (.slice A' (n + 1) c') ∧ n + 1 ≤ c' ∧ Sep w0 w' (.row 50 2 (.slice A' (n + 1) c') (n + 1) (xs.take (i * 2) ++ (v ++ xs.drop (i * 2))) :: .cells gv 50 v :: L)) := by
  obtain ⟨ti, hti, t0, t1, t2⟩ := info_parts gap_info
  have hs0 : ∃ q, ∀ w, (Instr.slice 37 (.slice A n c) (some (.int .i64 (i : Int))) none none).run Try.prog w = .ok q w := ⟨_, from_run (P := Try.prog) Try.underlying37 (size_of_info hti t1) A n c i hi⟩
  obtain ⟨q, hq⟩ := hs0
  have hib : i ≤ 1048576 := by omega
  have HH := Lib.hid H
  have HV1 := Lib.hid hv1
  have H1 := Lib.hid h1
  have hxl : xs.length = n * 2 := (H.rowHas 0 rfl).1
  have HXL := Lib.hid hxl
  have HVR : Hid (Rd w w.heap.size 2 (some ⟨gv, 0, none⟩) 1 v) := Lib.hid ⟨by rw [hv], fun _ => ⟨gv, 0, rfl, Blk.lt (H.blk 1 rfl), fun j u hj => by rw [Nat.zero_add]; exact H.cell 1 rfl hj⟩⟩
  by_cases hin : i = n
  · subst hin
    clear H hv1 h1 hxl
    have hXB : Hid (xs.take (i * 2) ++ (v ++ xs.drop (i * 2)) = xs ++ v) := Lib.hid (by rw [List.take_of_length_le (by rw [HXL.out]; exact Nat.le_refl _), List.drop_of_length_le (by rw [HXL.out]; exact Nat.le_refl _), List.append_nil])
    go_enter Try.func62, Try.ntmps62
    go_wp2_with (at_builtin; refine wpList_append_sep HH.out 0 rfl (.tmp 23) (.tmp 24) 37 rfl 50 ti (.agg #[.int .i64 0, .int .i64 0]) 2 16 Try.underlying37 hti t0 t1 t2 rfl (by omega) _ i _ rfl rfl _ _ 1 1 _ rfl HVR.out HV1.out (by simp only [maxLen]; omega) (by omega) ?_; intro A6 c6 w3 hc6 hs3 HA; have HA' := Lib.hid HA; clear HA hs3)
    go_ret
    exact ⟨A6, c6, rfl, hc6, by rw [hXB.out]; exact HA'.out⟩
  have ne : ((i : Int) == (n : Int)) = false := by simp; omega
  have ne2 : ¬ (i : Int) = (n : Int) := by omega
  by_cases hroom : n + 1 ≤ c
  · obtain ⟨g, Ai, Aj, di, ci, cj, r1, r2, rfl, hne, hdi, rfl, s1, s2, s3, hS⟩ := put_room_sep (P := Try.prog) (t := 37) (C := 2) (i := i) Try.underlying37 hti t1 (by omega) H hv hv1 (by omega) hroom h1
    have HS := Lib.hid hS
    obtain ⟨tB, kB, hsb, hkB⟩ : ∃ tB kB, w.shape? g = some (tB, kB) ∧ kB ≠ 0 := by
      obtain ⟨g', cap', cur, hv', hh, _, _, hsz, _⟩ := (H.rowHas 0 rfl).2.resolve_left (fun h => by omega)
      cases hv'
      exact ⟨_, _, shape_of' hh, by rw [hsz]; omega⟩
    have hov : ∀ lb cb, (callFunc 72 #[.slice (some ⟨gv, 0, none⟩) 1 1, .slice (some ⟨g, (i + 1) * 2, none⟩) lb cb]).run Try.prog w = .ok (.value (.bool false)) w := fun lb cb => by
      rw [run_callFunc_extern Try.func72 (by kernel_rfl) (by kernel_rfl) (by kernel_rfl) (e := Extern.SlicesOverlaps.overlaps #[37, 37] #[4]) (by kernel_rfl),
        Lib.run_overlaps_apart w 37 4 50 Try.underlying37 2 (size_of_info hti t1) ⟨gv, 0, none⟩ ⟨g, (i + 1) * 2, none⟩ 1 1 lb cb hne _ tB _ kB (shape_of' (H.blk 1 rfl)) hsb hkB (H.froz 1 rfl) (H.froz 1 rfl)]
      rfl
    have HIN := Lib.hid (And.intro hi hnc)
    have HRM := Lib.hid hroom
    clear H hv1 h1 hxl hS hsb hkB
    generalize hqq : (i + 1) * 2 = q2 at s2 hov HS
    clear hqq
    have k1 : ¬ (c : Int) < (n : Int) + 1 := by omega
    have k2 : decide ((c : Int) < (n : Int) + 1) = false := decide_eq_false k1
    clear hi hnc hroom hin
    go_enter Try.func62, Try.ntmps62
    go_upto_region 15 with (simp only [hov])
    (refine wp_region_tail 8 (by kernel_rfl) (by kernel_rfl) ?_; simp only [List.take_succ_cons, List.take_zero, List.drop_succ_cons, List.drop_zero]; repeat (go_big_quiet_step (fail)))
    refine wpQuiet_nil ?_; intro xw hw'; obtain ⟨xq, hw''⟩ := hw'; obtain ⟨xw0, xh⟩ := xq; change xw = xw0 at hw''; subst hw''
    obtain ⟨w2, w3, ha, hc, hs⟩ := HS.out xw xh
    rw [List.append_assoc] at hs
    have HS3 := Lib.hid hs
    clear hs
    go_wp2_with (first | (at_builtin; refine wpList_copy_runI _ rfl _ _ 37 37 rfl _ _ rfl rfl (ha _) ?_; clear ha) | (at_builtin; refine wpList_copy_runI _ rfl _ _ 37 37 rfl _ _ rfl rfl (hc _) ?_; clear hc))
    go_ret
    exact ⟨_, c, rfl, HRM.out, HS3.out⟩
  · obtain rfl : c = n := by omega
    obtain ⟨A2, Ai, Aj, As, c2, di, ci, cj, cs, w1, w2, r1, r2, hc2, s1, happ, s2, s3, s4, hcp, hS⟩ := put_grow_sep (P := Try.prog) (t := 37) (tn := 3) (C := 2) (i := i) (bytes := 16) Try.underlying37 Try.underlying3 hti t0 t1 t2 rfl (by omega) H hv hv1 (by omega) h1 (by simp only [maxLen]; omega) (by omega)
    have HS := Lib.hid hS
    have HIN := Lib.hid (And.intro hi hin)
    have k1 : (c : Int) < (c : Int) + 1 := by omega
    clear H hv1 h1 hxl hS hi hin hroom hnc hq
    go_enter Try.func62, Try.ntmps62
    go_upto_region 11 with (first
      | (at_builtin; refine Lib.wpList_append_run _ rfl _ _ _ _ rfl _ _ rfl rfl _ _ (happ _) ?_; clear happ)
      | (at_builtin; refine wpList_copy_runI _ rfl _ _ 37 37 rfl _ _ rfl rfl (hcp _) ?_; clear hcp))
    (refine wp_region_tail 8 (by kernel_rfl) (by kernel_rfl) ?_; simp only [List.take_succ_cons, List.take_zero, List.drop_succ_cons, List.drop_zero]; repeat (go_big_quiet_step (fail)))
    refine wpQuiet_nil ?_; intro xw hw'; obtain ⟨xq, hw''⟩ := hw'; obtain ⟨xw0, xh⟩ := xq; change xw = xw0 at hw''; subst hw''
    obtain ⟨w3, hc, hs⟩ := HS.out xw xh
    rw [List.append_assoc] at hs
    have HS3 := Lib.hid hs
    clear hs
    go_wp2_with (at_builtin; refine wpList_copy_runI _ rfl _ _ 37 37 rfl _ _ rfl rfl (hc _) ?_; clear hc)
    go_ret
    exact ⟨_, c2, rfl, hc2, HS3.out⟩
end Sp
end Go.Proofs.Ytakmfjnfkjdbfaa
