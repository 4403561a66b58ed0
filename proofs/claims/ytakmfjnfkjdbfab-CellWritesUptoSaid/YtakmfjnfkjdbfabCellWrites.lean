/-
  CellWrites: cell.Blank, May, Write and Force answer as the reference does. Conditions: bulk at most 1048576 (the second form): longer bytes' bits need more than a slice of bools can bear.
-/
import Derived.Test.YtakmfjnfkjdbfabCwW3
import Derived.Test.YtakmfjnfkjdbfabCwW4
import Derived.Test.YtakmfjnfkjdbfabParse
import Derived.Test.YtakmfjnfkjdbfabBulk
namespace Go.Proofs.Ytakmfjnfkjdbfab
open Go.ChangeShapes Go.WideShapes Go.ChangeAt Go.RowKit
set_option linter.unusedVariables false
namespace Cell

theorem rep_rcell : ∀ k : Nat, (List.replicate k true).flatMap rcell = List.replicate k (.bool true)
  | 0 => rfl
  | k + 1 => by rw [List.replicate_succ, List.replicate_succ, List.flatMap_cons, rep_rcell k]; rfl
set_option maxRecDepth 100000 in
set_option maxHeartbeats 6400000 in
theorem writes_walk (nn : Int) (A A' : Option Addr) (n c n' c' : Nat) (o t : List Nat) (w : World) (hr : Rd w w.heap.size 1 A n (o.flatMap bcell)) (hl : o.length = n) (hn : n ≤ 1048576) (hb : ∀ x ∈ o, x < 256)
    (hr' : Rd w w.heap.size 1 A' n' (t.flatMap bcell)) (hl' : t.length = n') (hn' : n' ≤ 1048576) (hb' : ∀ x ∈ t, x < 256) :
    Calls Try.prog 4 #[.int .i64 nn, .slice A n c, .slice A' n' c'] w (Ret w (.bool true)) := by
  have cW0 := Lib.hid (fun V (hV : Below w.heap.size w V) => write_any A A' n c n' c' o t V (hr.later hV) hl hn hb (hr'.later hV) hl' hn' hb')
  have cT0 := Lib.hid (fun V (hV : Below w.heap.size w V) R cr (hR : Rd V V.heap.size 1 R (8 * n') ((List.replicate (8 * n') true).flatMap rcell)) => ctorn_any A A' R n c n' c' (8 * n') cr o t (List.replicate (8 * n') true) V (hr.later hV) hl hn hb (hr'.later hV) hl' hn' hb' hR (by simp) (by omega))
  have cF0 := Lib.hid (fun V (hV : Below w.heap.size w V) => force_any A A' n c n' c' o t V (hr.later hV) hl hn hb (hr'.later hV) hl' hn' hb')
  have cG0 := Lib.hid (fun V (hV : Below w.heap.size w V) => cforce_any A A' n c n' c' o t V (hr.later hV) hl hn hb (hr'.later hV) hl' hn' hb')
  have cM0 := Lib.hid (fun V (hV : Below w.heap.size w V) => may_any A A' n c n' c' o t V (hr.later hV) hl (by omega) hb (hr'.later hV) hl' (by omega) hb')
  have cN0 := Lib.hid (fun V (hV : Below w.heap.size w V) => cmay_any A A' n c n' c' o t V (hr.later hV) hl hn hb (hr'.later hV) hl' hn' hb')
  have cA : Hid (∀ V R, Rd V V.heap.size 1 R 1 [.bool true] → Calls Try.prog 15 #[.slice R 1 1, .int .i64 (8 * (n' : Int))] V (SliceRet V 4 1 (8 * n') (List.replicate (8 * n') (.bool true)))) := Lib.hid (fun V R hR => by
    rcases Nat.eq_zero_or_pos n' with h0 | h0
    · subst h0
      exact Cw.reps_bool0 R 1 (.bool true) V hR
    · have := Cw.reps_bool R 1 (8 * n') (.bool true) V hR rfl (by omega) (by omega)
      rw [show ((8 * n' : Nat) : Int) = 8 * (n' : Int) by omega] at this
      exact this)
  have hwt := write_torn (o := o) hb'
  rw [hl'] at hwt
  rw [hwt] at cT0
  have hs1 : ∀ x ∈ (writeE o t).1, x < 256 := fun x hx => by
    unfold writeE at hx
    split at hx
    · cases hx
    · split at hx
      · exact hb' x hx
      · cases hx
  have hs2 : ∀ x ∈ (forceE o t).1, x < 256 := fun x hx => by
    unfold forceE at hx
    split at hx
    · cases hx
    · simp only [bytesOf, List.mem_map] at hx
      obtain ⟨j, _, rfl⟩ := hx
      exact byteN_lt _ 8
  clear hwt
  generalize writeE o t = p at cW0 cT0 hs1
  generalize forceE o t = q at cF0 cG0 hs2
  generalize mayL o t = mb at cM0 cN0
  obtain ⟨wl, pe⟩ := p
  obtain ⟨fl', qe⟩ := q
  have HS1 := Lib.hid hs1
  have HS2 := Lib.hid hs2
  clear hr hl hb hr' hl' hb' hs1 hs2
  simp only at HS1 HS2 cW0 cT0 cF0 cG0
  go_enter Try.func4, Try.ntmps4
  by_cases ho : nn < 0 ∨ 4096 < nn
  · have cB := Lib.hid (blank_out nn w ho)
    have cW := cW0
    have cT := cT0
    have cF := cF0
    have cG := cG0
    have cM := cM0
    have cN := cN0
    clear cW0 cT0 cF0 cG0 cM0 cN0
    by_cases h0 : nn < 0
    · clear ho
      go_wp2_with fail
      refine cB.out.mono ?_; rintro en wb ⟨rfl, hbb⟩
      clear cB
      have HB0 := Lib.hid hbb
      clear hbb
      go_wp2_with fail
      refine (cW.out _ HB0.out).mono ?_; rintro en wa ⟨va, rfl, hoa, hba⟩
      have HOA := Lib.hid hoa
      have HB1 := Lib.hid (HB0.out.trans (hba.mono HB0.out.size))
      clear hoa hba cW
      obtain ⟨Aa, ca, rfl⟩ := own_slice HOA.out
      have hrt : Rd (wa.alloc (.cells #[.bool true] 4)) (wa.alloc (.cells #[.bool true] 4)).heap.size 1 (some ⟨wa.heap.size, 0, none⟩) 1 [.bool true] := Rd.of_own (own_new wa 4 #[.bool true] 1 1 rfl (by simp [maxLen]) (Nat.le_refl _))
      have hba : Below wa.heap.size wa (wa.alloc (.cells #[.bool true] 4)) := (Below.refl _ _).alloc (Nat.le_refl _) _
      have cA2 := Lib.hid (cA.out _ _ hrt)
      have HOA2 := Lib.hid (own_below HOA.out hba)
      have HB2 := Lib.hid (HB1.out.trans (hba.mono HB1.out.size))
      clear hrt hba HOA HB1 cA
      go_wp2_with fail
      refine cA2.out.mono ?_; rintro en wc ⟨Ac, cc, hcc, rfl, Kc⟩
      have HRA : Hid (Rd wc wc.heap.size 1 Ac (8 * n') ((List.replicate (8 * n') true).flatMap rcell)) := Lib.hid (by rw [rep_rcell]; exact Kc.rd 0 rfl)
      have HOA3 := Lib.hid (own_below HOA2.out Kc.below)
      have HB3 := Lib.hid (HB2.out.trans (Kc.below.mono HB2.out.size))
      clear Kc HOA2 HB2 cA2
      have cT2 := Lib.hid (cT.out wc HB3.out Ac cc HRA.out)
      go_wp2_with fail
      refine cT2.out.mono ?_; rintro en wd ⟨vd, rfl, hod, hbd⟩
      have HOD := Lib.hid hod
      have HOA4 := Lib.hid (own_below HOA3.out hbd)
      have HB4 := Lib.hid (HB3.out.trans (hbd.mono HB3.out.size))
      clear hod hbd HOA3 HB3 cT2 cT
      obtain ⟨Ad, cd, rfl⟩ := own_slice HOD.out
      go_wp2_with fail
      refine (cF.out _ HB4.out).mono ?_; rintro en we ⟨Ae, ce, rfl, Ke⟩
      have HRE := Lib.hid (Ke.rd 0 rfl)
      have HOA5 := Lib.hid (own_below HOA4.out Ke.below)
      have HOD5 := Lib.hid (own_below HOD.out Ke.below)
      have HB5 := Lib.hid (HB4.out.trans (Ke.below.mono HB4.out.size))
      clear Ke HOA4 HOD HB4 cF
      go_wp2_with fail
      refine (cG.out _ HB5.out).mono ?_; rintro en wf ⟨vf, rfl, hof, hbf⟩
      have HOF := Lib.hid hof
      have HRE6 := Lib.hid (HRE.out.later hbf)
      have HOA6 := Lib.hid (own_below HOA5.out hbf)
      have HOD6 := Lib.hid (own_below HOD5.out hbf)
      have HB6 := Lib.hid (HB5.out.trans (hbf.mono HB5.out.size))
      clear hof hbf HRE HOA5 HOD5 HB5 cG
      obtain ⟨Af, cf, rfl⟩ := own_slice HOF.out
      go_wp2_with fail
      refine (cM.out _ HB6.out).mono ?_; rintro en wg ⟨rfl, hbg⟩
      have HB7 := Lib.hid (HB6.out.trans (hbg.mono HB6.out.size))
      have HBG := Lib.hid hbg
      clear hbg cM
      go_wp2_with fail
      refine (cN.out _ HB7.out).mono ?_; rintro en wh ⟨rfl, hbh⟩
      have HB8 := Lib.hid (HB7.out.trans (hbh.mono HB7.out.size))
      have hgh := HBG.out.trans (hbh.mono HBG.out.size)
      have x1 := run_str_own (P := Try.prog) 34 9 5 Try.underlying34 Try.underlying5 Try.underlying9 (own_below HOA6.out hgh) HS1.out
      have x2 := run_str_own (P := Try.prog) 34 9 5 Try.underlying34 Try.underlying5 Try.underlying9 (own_below HOD6.out hgh) HS1.out
      have x3 := run_str_rd (P := Try.prog) (c := ce) 34 9 5 Try.underlying34 Try.underlying5 Try.underlying9 (HRE6.out.later hgh) HS2.out
      have x4 := run_str_own (P := Try.prog) 34 9 5 Try.underlying34 Try.underlying5 Try.underlying9 (own_below HOF.out hgh) HS2.out
      generalize strOf wl = z1 at x1 x2
      generalize strOf fl' = z2 at x3 x4
      clear hbh hgh HBG HB7 HB6
      cases mb
      all_goals
        go_wp2
        go_ret
        exact Ret.mk (bool_eq (by simp)) HB8.out
    · have h1 : 4096 < nn := by omega
      clear ho
      go_wp2_with fail
      refine cB.out.mono ?_; rintro en wb ⟨rfl, hbb⟩
      clear cB
      have HB0 := Lib.hid hbb
      clear hbb
      go_wp2_with fail
      refine (cW.out _ HB0.out).mono ?_; rintro en wa ⟨va, rfl, hoa, hba⟩
      have HOA := Lib.hid hoa
      have HB1 := Lib.hid (HB0.out.trans (hba.mono HB0.out.size))
      clear hoa hba cW
      obtain ⟨Aa, ca, rfl⟩ := own_slice HOA.out
      have hrt : Rd (wa.alloc (.cells #[.bool true] 4)) (wa.alloc (.cells #[.bool true] 4)).heap.size 1 (some ⟨wa.heap.size, 0, none⟩) 1 [.bool true] := Rd.of_own (own_new wa 4 #[.bool true] 1 1 rfl (by simp [maxLen]) (Nat.le_refl _))
      have hba : Below wa.heap.size wa (wa.alloc (.cells #[.bool true] 4)) := (Below.refl _ _).alloc (Nat.le_refl _) _
      have cA2 := Lib.hid (cA.out _ _ hrt)
      have HOA2 := Lib.hid (own_below HOA.out hba)
      have HB2 := Lib.hid (HB1.out.trans (hba.mono HB1.out.size))
      clear hrt hba HOA HB1 cA
      go_wp2_with fail
      refine cA2.out.mono ?_; rintro en wc ⟨Ac, cc, hcc, rfl, Kc⟩
      have HRA : Hid (Rd wc wc.heap.size 1 Ac (8 * n') ((List.replicate (8 * n') true).flatMap rcell)) := Lib.hid (by rw [rep_rcell]; exact Kc.rd 0 rfl)
      have HOA3 := Lib.hid (own_below HOA2.out Kc.below)
      have HB3 := Lib.hid (HB2.out.trans (Kc.below.mono HB2.out.size))
      clear Kc HOA2 HB2 cA2
      have cT2 := Lib.hid (cT.out wc HB3.out Ac cc HRA.out)
      go_wp2_with fail
      refine cT2.out.mono ?_; rintro en wd ⟨vd, rfl, hod, hbd⟩
      have HOD := Lib.hid hod
      have HOA4 := Lib.hid (own_below HOA3.out hbd)
      have HB4 := Lib.hid (HB3.out.trans (hbd.mono HB3.out.size))
      clear hod hbd HOA3 HB3 cT2 cT
      obtain ⟨Ad, cd, rfl⟩ := own_slice HOD.out
      go_wp2_with fail
      refine (cF.out _ HB4.out).mono ?_; rintro en we ⟨Ae, ce, rfl, Ke⟩
      have HRE := Lib.hid (Ke.rd 0 rfl)
      have HOA5 := Lib.hid (own_below HOA4.out Ke.below)
      have HOD5 := Lib.hid (own_below HOD.out Ke.below)
      have HB5 := Lib.hid (HB4.out.trans (Ke.below.mono HB4.out.size))
      clear Ke HOA4 HOD HB4 cF
      go_wp2_with fail
      refine (cG.out _ HB5.out).mono ?_; rintro en wf ⟨vf, rfl, hof, hbf⟩
      have HOF := Lib.hid hof
      have HRE6 := Lib.hid (HRE.out.later hbf)
      have HOA6 := Lib.hid (own_below HOA5.out hbf)
      have HOD6 := Lib.hid (own_below HOD5.out hbf)
      have HB6 := Lib.hid (HB5.out.trans (hbf.mono HB5.out.size))
      clear hof hbf HRE HOA5 HOD5 HB5 cG
      obtain ⟨Af, cf, rfl⟩ := own_slice HOF.out
      go_wp2_with fail
      refine (cM.out _ HB6.out).mono ?_; rintro en wg ⟨rfl, hbg⟩
      have HB7 := Lib.hid (HB6.out.trans (hbg.mono HB6.out.size))
      have HBG := Lib.hid hbg
      clear hbg cM
      go_wp2_with fail
      refine (cN.out _ HB7.out).mono ?_; rintro en wh ⟨rfl, hbh⟩
      have HB8 := Lib.hid (HB7.out.trans (hbh.mono HB7.out.size))
      have hgh := HBG.out.trans (hbh.mono HBG.out.size)
      have x1 := run_str_own (P := Try.prog) 34 9 5 Try.underlying34 Try.underlying5 Try.underlying9 (own_below HOA6.out hgh) HS1.out
      have x2 := run_str_own (P := Try.prog) 34 9 5 Try.underlying34 Try.underlying5 Try.underlying9 (own_below HOD6.out hgh) HS1.out
      have x3 := run_str_rd (P := Try.prog) (c := ce) 34 9 5 Try.underlying34 Try.underlying5 Try.underlying9 (HRE6.out.later hgh) HS2.out
      have x4 := run_str_own (P := Try.prog) 34 9 5 Try.underlying34 Try.underlying5 Try.underlying9 (own_below HOF.out hgh) HS2.out
      generalize strOf wl = z1 at x1 x2
      generalize strOf fl' = z2 at x3 x4
      clear hbh hgh HBG HB7 HB6
      cases mb
      all_goals
        go_wp2
        go_ret
        exact Ret.mk (bool_eq (by simp)) HB8.out
  · obtain ⟨k, rfl⟩ := Int.eq_ofNat_of_zero_le (show 0 ≤ nn by omega)
    have k0 : ¬ (k : Int) < 0 := by omega
    have k1 : ¬ (4096 : Int) < (k : Int) := by omega
    have k2 : ¬ 4096 < k := by omega
    have cB := Lib.hid (blank_any k w (by omega))
    clear ho
    go_wp2_with fail
    refine cB.out.mono ?_; rintro en wb ⟨A1, c1, hc1, rfl, hbb, hrb⟩
    have HBB := Lib.hid hbb
    have hzs : ∀ x ∈ List.replicate k 255, x < 256 := fun x hx => by rw [List.mem_replicate] at hx; omega
    obtain ⟨z, hz⟩ : ∃ z, z = strOf (List.replicate k 255) := ⟨_, rfl⟩
    have HSX : Hid (∀ V, Below wb.heap.size wb V → (convert 34 9 (.slice A1 k c1)).run Try.prog V = .ok (.string z) V) := Lib.hid (fun V hV => by
      rw [hz]
      exact run_str_rd (P := Try.prog) 34 9 5 Try.underlying34 Try.underlying5 Try.underlying9 (hrb.below hV) hzs)
    have HSY : Hid (∀ V A9 c9, Rd V V.heap.size 1 A9 k (List.replicate k (.int .u8 255)) → (convert 34 9 (.slice A9 k c9)).run Try.prog V = .ok (.string z) V) := Lib.hid (fun V A9 c9 hV => by
      rw [hz]
      exact run_str_rd (P := Try.prog) 34 9 5 Try.underlying34 Try.underlying5 Try.underlying9 (l := List.replicate k 255) (by rw [rep_flat]; exact hV) hzs)
    have cY : Hid (∀ V R, Rd V V.heap.size 1 R 1 [.int .u8 255] → Calls Try.prog 13 #[.slice R 1 1, .int .i64 (k : Int)] V (SliceRet V 5 1 k (List.replicate k (.int .u8 255)))) := Lib.hid (fun V R hR => by
      rcases Nat.eq_zero_or_pos k with h0 | h0
      · subst h0
        exact Cw.reps_byte0 R 1 (.int .u8 255) V hR
      · exact Cw.reps_byte R 1 k (.int .u8 255) V hR rfl h0 (by omega))
    clear hz hzs hrb hbb
    go_upto_region 5 with (fail)
    refine wp_region_inv0 (fun ac0 L ac w' => ∃ x36 x37 x38 x39 x40 x41 x42 x43 x44 x45 x46, ac = turn ac0 [(36, x36), (37, x37), (38, x38), (39, x39), (40, x40), (41, x41), (42, x42), (43, x43), (44, x44), (45, x45), (46, x46)] ∧ (L 0 = true → x36 = .int .i64 0) ∧ (L 1 = true → x37 = .bool false) ∧ (L 2 = true → x38 = .bool false) ∧ (L 3 = true → x39 = .slice A1 k c1) ∧ (L 4 = true → x40 = .string z) ∧ (L 6 = true → x42 = .int .i64 (k : Int)) ∧ (L 8 = true → x44 = .string z) ∧ (L 9 = true → x45 = .bool false) ∧ (L 10 = true → x46 = .bool false) ∧ (L 1 = true → L 0 = true) ∧ (L 2 = true → L 1 = true) ∧ (L 3 = true → L 2 = true) ∧ (L 4 = true → L 2 = true ∧ L 3 = true) ∧ (L 5 = true → L 2 = true) ∧ (L 6 = true → L 2 = true) ∧ (L 7 = true → L 2 = true ∧ L 5 = true ∧ L 6 = true) ∧ (L 8 = true → L 2 = true ∧ L 7 = true) ∧ (L 9 = true → L 2 = true ∧ L 4 = true ∧ L 8 = true) ∧ (L 10 = true → L 2 = true ∧ L 9 = true) ∧ (if L 7 = true then (∃ A9 c9, x43 = .slice A9 k c9 ∧ Below wb.heap.size wb w' ∧ Rd w' w'.heap.size 1 A9 k (List.replicate k (.int .u8 255))) else (if L 5 = true then (∃ gv, x41 = .slice (some ⟨gv, 0, none⟩) 1 1 ∧ Below wb.heap.size wb w' ∧ Rd w' w'.heap.size 1 (some ⟨gv, 0, none⟩) 1 [.int .u8 255]) else Below wb.heap.size wb w'))) rfl (by kernel_rfl) ?_ ?_ ?_
    · simp only [turn, List.foldl_cons, List.foldl_nil, List.setIfInBounds_toArray, List.set_cons_succ, List.set_cons_zero]
      exact ⟨_, _, _, _, _, _, _, _, _, _, _, rfl, (fun h => absurd h (by decide)), (fun h => absurd h (by decide)), (fun h => absurd h (by decide)), (fun h => absurd h (by decide)), (fun h => absurd h (by decide)), (fun h => absurd h (by decide)), (fun h => absurd h (by decide)), (fun h => absurd h (by decide)), (fun h => absurd h (by decide)), (fun h => absurd h (by decide)), (fun h => absurd h (by decide)), (fun h => absurd h (by decide)), (fun h => absurd h (by decide)), (fun h => absurd h (by decide)), (fun h => absurd h (by decide)), (fun h => absurd h (by decide)), (fun h => absurd h (by decide)), (fun h => absurd h (by decide)), (fun h => absurd h (by decide)), by simpa using (Below.refl wb.heap.size wb).drew⟩
    · rintro L ac w' i o ⟨x36, x37, x38, x39, x40, x41, x42, x43, x44, x45, x46, ha, p0, p1, p2, p3, p4, p6, p8, p9, p10, q1, q2, q3, q4, q5, q6, q7, q8, q9, q10, hS⟩ ho hi he
      simp only [turn, List.foldl_cons, List.foldl_nil, List.setIfInBounds_toArray, List.set_cons_succ, List.set_cons_zero] at ha ⊢
      subst ha
      rcases i with _|_|_|_|_|_|_|_|_|_|_|i
      all_goals cases ho
      all_goals simp [Region.binds] at he
      · have h1 : L 1 = false := by cases hh : L 1 with | false => rfl | true => (have hq := q1 hh; simp [hi] at hq)
        have h2 : L 2 = false := by cases hh : L 2 with | false => rfl | true => (have hq := q2 hh; simp [h1] at hq)
        have h3 : L 3 = false := by cases hh : L 3 with | false => rfl | true => (have hq := q3 hh; simp [h2] at hq)
        have h4 : L 4 = false := by cases hh : L 4 with | false => rfl | true => (have hq := q4 hh; simp [h2] at hq)
        have h5 : L 5 = false := by cases hh : L 5 with | false => rfl | true => (have hq := q5 hh; simp [h2] at hq)
        have h6 : L 6 = false := by cases hh : L 6 with | false => rfl | true => (have hq := q6 hh; simp [h2] at hq)
        have h7 : L 7 = false := by cases hh : L 7 with | false => rfl | true => (have hq := q7 hh; simp [h2] at hq)
        have h8 : L 8 = false := by cases hh : L 8 with | false => rfl | true => (have hq := q8 hh; simp [h2] at hq)
        have h9 : L 9 = false := by cases hh : L 9 with | false => rfl | true => (have hq := q9 hh; simp [h2] at hq)
        have h10 : L 10 = false := by cases hh : L 10 with | false => rfl | true => (have hq := q10 hh; simp [h2] at hq)
        refine wpOp_step rfl (fun K hK => ?_)
        go_simp
        exact hK _ _ ⟨_, _, _, _, _, _, _, _, _, _, _, rfl, (fun _ => rfl), (by simp [h1]), (by simp [h2]), (by simp [h3]), (by simp [h4]), (by simp [h6]), (by simp [h8]), (by simp [h9]), (by simp [h10]), (by simp [h1]), (by simp [h2]), (by simp [h3]), (by simp [h4]), (by simp [h5]), (by simp [h6]), (by simp [h7]), (by simp [h8]), (by simp [h9]), (by simp [h10]), (by simpa [h1, h2, h3, h4, h5, h6, h7, h8, h9, h10] using hS)⟩
      · have h2 : L 2 = false := by cases hh : L 2 with | false => rfl | true => (have hq := q2 hh; simp [hi] at hq)
        have h3 : L 3 = false := by cases hh : L 3 with | false => rfl | true => (have hq := q3 hh; simp [h2] at hq)
        have h4 : L 4 = false := by cases hh : L 4 with | false => rfl | true => (have hq := q4 hh; simp [h2] at hq)
        have h5 : L 5 = false := by cases hh : L 5 with | false => rfl | true => (have hq := q5 hh; simp [h2] at hq)
        have h6 : L 6 = false := by cases hh : L 6 with | false => rfl | true => (have hq := q6 hh; simp [h2] at hq)
        have h7 : L 7 = false := by cases hh : L 7 with | false => rfl | true => (have hq := q7 hh; simp [h2] at hq)
        have h8 : L 8 = false := by cases hh : L 8 with | false => rfl | true => (have hq := q8 hh; simp [h2] at hq)
        have h9 : L 9 = false := by cases hh : L 9 with | false => rfl | true => (have hq := q9 hh; simp [h2] at hq)
        have h10 : L 10 = false := by cases hh : L 10 with | false => rfl | true => (have hq := q10 hh; simp [h2] at hq)
        obtain rfl := p0 (by simp [he])
        refine wpOp_step rfl (fun K hK => ?_)
        go_simp
        exact hK _ _ ⟨_, _, _, _, _, _, _, _, _, _, _, rfl, (by first | exact p0 | exact fun _ => rfl), (fun _ => rfl), (by simp [h2]), (by simp [h3]), (by simp [h4]), (by simp [h6]), (by simp [h8]), (by simp [h9]), (by simp [h10]), (by simp [he]), (by simp [h2]), (by simp [h3]), (by simp [h4]), (by simp [h5]), (by simp [h6]), (by simp [h7]), (by simp [h8]), (by simp [h9]), (by simp [h10]), (by simpa [h2, h3, h4, h5, h6, h7, h8, h9, h10] using hS)⟩
      · have h3 : L 3 = false := by cases hh : L 3 with | false => rfl | true => (have hq := q3 hh; simp [hi] at hq)
        have h4 : L 4 = false := by cases hh : L 4 with | false => rfl | true => (have hq := q4 hh; simp [hi] at hq)
        have h5 : L 5 = false := by cases hh : L 5 with | false => rfl | true => (have hq := q5 hh; simp [hi] at hq)
        have h6 : L 6 = false := by cases hh : L 6 with | false => rfl | true => (have hq := q6 hh; simp [hi] at hq)
        have h7 : L 7 = false := by cases hh : L 7 with | false => rfl | true => (have hq := q7 hh; simp [hi] at hq)
        have h8 : L 8 = false := by cases hh : L 8 with | false => rfl | true => (have hq := q8 hh; simp [hi] at hq)
        have h9 : L 9 = false := by cases hh : L 9 with | false => rfl | true => (have hq := q9 hh; simp [hi] at hq)
        have h10 : L 10 = false := by cases hh : L 10 with | false => rfl | true => (have hq := q10 hh; simp [hi] at hq)
        obtain rfl := p1 (by simp [he])
        refine wpOp_step rfl (fun K hK => ?_)
        go_simp
        exact hK _ _ ⟨_, _, _, _, _, _, _, _, _, _, _, rfl, (by first | exact p0 | exact fun _ => rfl), (by first | exact p1 | exact fun _ => rfl), (fun _ => rfl), (by simp [h3]), (by simp [h4]), (by simp [h6]), (by simp [h8]), (by simp [h9]), (by simp [h10]), (by simpa using q1), (by simp [he]), (by simp [h3]), (by simp [h4]), (by simp [h5]), (by simp [h6]), (by simp [h7]), (by simp [h8]), (by simp [h9]), (by simp [h10]), (by simpa [h3, h4, h5, h6, h7, h8, h9, h10] using hS)⟩
      · have h4 : L 4 = false := by cases hh : L 4 with | false => rfl | true => (have hq := q4 hh; simp [hi] at hq)
        have h9 : L 9 = false := by cases hh : L 9 with | false => rfl | true => (have hq := q9 hh; simp [h4] at hq)
        have h10 : L 10 = false := by cases hh : L 10 with | false => rfl | true => (have hq := q10 hh; simp [h9] at hq)
        obtain rfl := p2 (by simp [he])
        refine wpOp_step rfl (fun K hK => ?_)
        go_simp
        exact hK _ _ ⟨_, _, _, _, _, _, _, _, _, _, _, rfl, (by first | exact p0 | exact fun _ => rfl), (by first | exact p1 | exact fun _ => rfl), (by first | exact p2 | exact fun _ => rfl), (fun _ => rfl), (by simp [h4]), (by first | exact p6 | exact fun _ => rfl), (by first | exact p8 | exact fun _ => rfl), (by simp [h9]), (by simp [h10]), (by simpa using q1), (by simpa using q2), (by simp [he]), (by simp [h4]), (by simpa using q5), (by simpa using q6), (by simpa using q7), (by simpa using q8), (by simp [h9]), (by simp [h10]), (by simpa [h4, h9, h10] using hS)⟩
      · have h9 : L 9 = false := by cases hh : L 9 with | false => rfl | true => (have hq := q9 hh; simp [hi] at hq)
        have h10 : L 10 = false := by cases hh : L 10 with | false => rfl | true => (have hq := q10 hh; simp [h9] at hq)
        obtain rfl := p3 (by simp [he])
        obtain rfl := p2 (by simp [he])
        have hbw : Below wb.heap.size wb w' := by
          split at hS
          · exact hS.elim fun _ h => h.elim fun _ h => h.2.1
          · split at hS
            · exact hS.elim fun _ h => h.2.1
            · exact hS
        have s1 := HSX.out w' hbw
        refine wpOp_step rfl (fun K hK => ?_)
        go_simp
        exact hK _ _ ⟨_, _, _, _, _, _, _, _, _, _, _, rfl, (by first | exact p0 | exact fun _ => rfl), (by first | exact p1 | exact fun _ => rfl), (by first | exact p2 | exact fun _ => rfl), (by first | exact p3 | exact fun _ => rfl), (fun _ => rfl), (by first | exact p6 | exact fun _ => rfl), (by first | exact p8 | exact fun _ => rfl), (by simp [h9]), (by simp [h10]), (by simpa using q1), (by simpa using q2), (by simpa using q3), (by simp [he]), (by simpa using q5), (by simpa using q6), (by simpa using q7), (by simpa using q8), (by simp [h9]), (by simp [h10]), (by simpa [h9, h10] using hS)⟩
      · have h7 : L 7 = false := by cases hh : L 7 with | false => rfl | true => (have hq := q7 hh; simp [hi] at hq)
        have h8 : L 8 = false := by cases hh : L 8 with | false => rfl | true => (have hq := q8 hh; simp [h7] at hq)
        have h9 : L 9 = false := by cases hh : L 9 with | false => rfl | true => (have hq := q9 hh; simp [h8] at hq)
        have h10 : L 10 = false := by cases hh : L 10 with | false => rfl | true => (have hq := q10 hh; simp [h9] at hq)
        obtain rfl := p2 (by simp [he])
        rw [if_neg (by simp [h7]), if_neg (by simp [hi])] at hS
        have hb2 : Below w'.heap.size w' (w'.alloc (.cells #[.int .u8 255] 5)) := (Below.refl _ _).alloc (Nat.le_refl _) _
        have hr2 : Rd (w'.alloc (.cells #[.int .u8 255] 5)) (w'.alloc (.cells #[.int .u8 255] 5)).heap.size 1 (some ⟨w'.heap.size, 0, none⟩) 1 [.int .u8 255] := Rd.of_own (own_new w' 5 #[.int .u8 255] 1 1 rfl (by simp [maxLen]) (Nat.le_refl _))
        refine wpOp_step rfl (fun K hK => ?_)
        go_simp
        exact hK _ _ ⟨_, _, _, _, _, _, _, _, _, _, _, rfl, (by first | exact p0 | exact fun _ => rfl), (by first | exact p1 | exact fun _ => rfl), (by first | exact p2 | exact fun _ => rfl), (by first | exact p3 | exact fun _ => rfl), (by first | exact p4 | exact fun _ => rfl), (by first | exact p6 | exact fun _ => rfl), (by simp [h8]), (by simp [h9]), (by simp [h10]), (by simpa using q1), (by simpa using q2), (by simpa using q3), (by simpa using q4), (by simp [he]), (by simpa using q6), (by simp [h7]), (by simp [h8]), (by simp [h9]), (by simp [h10]), (by rw [if_neg (by simp [h7]), if_pos (by simp)]; exact ⟨_, rfl, hS.trans (hb2.mono hS.size), hr2⟩)⟩
      · have h7 : L 7 = false := by cases hh : L 7 with | false => rfl | true => (have hq := q7 hh; simp [hi] at hq)
        have h8 : L 8 = false := by cases hh : L 8 with | false => rfl | true => (have hq := q8 hh; simp [h7] at hq)
        have h9 : L 9 = false := by cases hh : L 9 with | false => rfl | true => (have hq := q9 hh; simp [h8] at hq)
        have h10 : L 10 = false := by cases hh : L 10 with | false => rfl | true => (have hq := q10 hh; simp [h9] at hq)
        obtain rfl := p2 (by simp [he])
        refine wpOp_step rfl (fun K hK => ?_)
        go_simp
        exact hK _ _ ⟨_, _, _, _, _, _, _, _, _, _, _, rfl, (by first | exact p0 | exact fun _ => rfl), (by first | exact p1 | exact fun _ => rfl), (by first | exact p2 | exact fun _ => rfl), (by first | exact p3 | exact fun _ => rfl), (by first | exact p4 | exact fun _ => rfl), (fun _ => rfl), (by simp [h8]), (by simp [h9]), (by simp [h10]), (by simpa using q1), (by simpa using q2), (by simpa using q3), (by simpa using q4), (by simpa using q5), (by simp [he]), (by simp [h7]), (by simp [h8]), (by simp [h9]), (by simp [h10]), (by simpa [h7, h8, h9, h10] using hS)⟩
      · have h8 : L 8 = false := by cases hh : L 8 with | false => rfl | true => (have hq := q8 hh; simp [hi] at hq)
        have h9 : L 9 = false := by cases hh : L 9 with | false => rfl | true => (have hq := q9 hh; simp [h8] at hq)
        have h10 : L 10 = false := by cases hh : L 10 with | false => rfl | true => (have hq := q10 hh; simp [h9] at hq)
        obtain rfl := p6 (by simp [he])
        obtain rfl := p2 (by simp [he])
        have t5 : L 5 = true := by simp [he]
        rw [if_neg (by simp [hi]), if_pos t5] at hS
        obtain ⟨gv, rfl, hbw, hr9⟩ := hS
        refine wpOp_step rfl (fun K hK => ?_)
        go_simp
        refine (cY.out w' _ hr9).mono ?_; rintro en w5 ⟨A9, c9, hc9, rfl, K5⟩
        exact hK _ _ ⟨_, _, _, _, _, _, _, _, _, _, _, rfl, (by first | exact p0 | exact fun _ => rfl), (by first | exact p1 | exact fun _ => rfl), (by first | exact p2 | exact fun _ => rfl), (by first | exact p3 | exact fun _ => rfl), (by first | exact p4 | exact fun _ => rfl), (by first | exact p6 | exact fun _ => rfl), (by simp [h8]), (by simp [h9]), (by simp [h10]), (by simpa using q1), (by simpa using q2), (by simpa using q3), (by simpa using q4), (by simpa using q5), (by simpa using q6), (by simp [he]), (by simp [h8]), (by simp [h9]), (by simp [h10]), (by rw [if_pos (by simp)]; exact ⟨A9, c9, rfl, hbw.trans (K5.below.mono hbw.size), K5.rd 0 rfl⟩)⟩
      · have h9 : L 9 = false := by cases hh : L 9 with | false => rfl | true => (have hq := q9 hh; simp [hi] at hq)
        have h10 : L 10 = false := by cases hh : L 10 with | false => rfl | true => (have hq := q10 hh; simp [h9] at hq)
        obtain rfl := p2 (by simp [he])
        have hS2 := hS
        rw [if_pos (by simp [he])] at hS2
        obtain ⟨A9, c9, e43, hbw, hr9⟩ := hS2
        subst e43
        have s1 := HSY.out w' A9 c9 hr9
        refine wpOp_step rfl (fun K hK => ?_)
        go_simp
        exact hK _ _ ⟨_, _, _, _, _, _, _, _, _, _, _, rfl, (by first | exact p0 | exact fun _ => rfl), (by first | exact p1 | exact fun _ => rfl), (by first | exact p2 | exact fun _ => rfl), (by first | exact p3 | exact fun _ => rfl), (by first | exact p4 | exact fun _ => rfl), (by first | exact p6 | exact fun _ => rfl), (fun _ => rfl), (by simp [h9]), (by simp [h10]), (by simpa using q1), (by simpa using q2), (by simpa using q3), (by simpa using q4), (by simpa using q5), (by simpa using q6), (by simpa using q7), (by simp [he]), (by simp [h9]), (by simp [h10]), (by simpa [h9, h10] using hS)⟩
      · have h10 : L 10 = false := by cases hh : L 10 with | false => rfl | true => (have hq := q10 hh; simp [hi] at hq)
        obtain rfl := p4 (by simp [he])
        obtain rfl := p8 (by simp [he])
        obtain rfl := p2 (by simp [he])
        refine wpOp_step rfl (fun K hK => ?_)
        go_simp
        exact hK _ _ ⟨_, _, _, _, _, _, _, _, _, _, _, rfl, (by first | exact p0 | exact fun _ => rfl), (by first | exact p1 | exact fun _ => rfl), (by first | exact p2 | exact fun _ => rfl), (by first | exact p3 | exact fun _ => rfl), (by first | exact p4 | exact fun _ => rfl), (by first | exact p6 | exact fun _ => rfl), (by first | exact p8 | exact fun _ => rfl), (fun _ => rfl), (by simp [h10]), (by simpa using q1), (by simpa using q2), (by simpa using q3), (by simpa using q4), (by simpa using q5), (by simpa using q6), (by simpa using q7), (by simpa using q8), (by simp [he]), (by simp [h10]), (by simpa [h10] using hS)⟩
      · obtain rfl := p2 (by simp [he])
        obtain rfl := p9 (by simp [he])
        refine wpOp_step rfl (fun K hK => ?_)
        go_simp
        exact hK _ _ ⟨_, _, _, _, _, _, _, _, _, _, _, rfl, (by first | exact p0 | exact fun _ => rfl), (by first | exact p1 | exact fun _ => rfl), (by first | exact p2 | exact fun _ => rfl), (by first | exact p3 | exact fun _ => rfl), (by first | exact p4 | exact fun _ => rfl), (by first | exact p6 | exact fun _ => rfl), (by first | exact p8 | exact fun _ => rfl), (by first | exact p9 | exact fun _ => rfl), (fun _ => rfl), (by simpa using q1), (by simpa using q2), (by simpa using q3), (by simpa using q4), (by simpa using q5), (by simpa using q6), (by simpa using q7), (by simpa using q8), (by simpa using q9), (by simp [he]), (by simpa using hS)⟩
    · rintro L ac w' ⟨x36, x37, x38, x39, x40, x41, x42, x43, x44, x45, x46, ha, p0, p1, p2, p3, p4, p6, p8, p9, p10, q1, q2, q3, q4, q5, q6, q7, q8, q9, q10, hS⟩ hall
      have t5 := hall 5 (by decide)
      have t7 := hall 7 (by decide)
      rw [if_pos t7] at hS
      obtain ⟨A9, c9, rfl, hbw, hr9⟩ := hS
      obtain rfl := p0 (hall 0 (by decide))
      obtain rfl := p1 (hall 1 (by decide))
      obtain rfl := p2 (hall 2 (by decide))
      obtain rfl := p3 (hall 3 (by decide))
      obtain rfl := p4 (hall 4 (by decide))
      obtain rfl := p6 (hall 6 (by decide))
      obtain rfl := p8 (hall 8 (by decide))
      obtain rfl := p9 (hall 9 (by decide))
      obtain rfl := p10 (hall 10 (by decide))
      simp only [turn, List.foldl_cons, List.foldl_nil, List.setIfInBounds_toArray, List.set_cons_succ, List.set_cons_zero] at ha
      subst ha
      clear q1 q2 q3 q4 q5 q6 q7 q8 q9 q10  t5 t7
      clear hr9
      have hbw := HBB.out.trans (hbw.mono HBB.out.size)
      have cW := cW0
      have cT := cT0
      have cF := cF0
      have cG := cG0
      have cM := cM0
      have cN := cN0
      clear cW0 cT0 cF0 cG0 cM0 cN0
      have HB0 := Lib.hid hbw
      clear hbw
      go_wp2_with fail
      refine (cW.out _ HB0.out).mono ?_; rintro en wa ⟨va, rfl, hoa, hba⟩
      have HOA := Lib.hid hoa
      have HB1 := Lib.hid (HB0.out.trans (hba.mono HB0.out.size))
      clear hoa hba cW
      obtain ⟨Aa, ca, rfl⟩ := own_slice HOA.out
      have hrt : Rd (wa.alloc (.cells #[.bool true] 4)) (wa.alloc (.cells #[.bool true] 4)).heap.size 1 (some ⟨wa.heap.size, 0, none⟩) 1 [.bool true] := Rd.of_own (own_new wa 4 #[.bool true] 1 1 rfl (by simp [maxLen]) (Nat.le_refl _))
      have hba : Below wa.heap.size wa (wa.alloc (.cells #[.bool true] 4)) := (Below.refl _ _).alloc (Nat.le_refl _) _
      have cA2 := Lib.hid (cA.out _ _ hrt)
      have HOA2 := Lib.hid (own_below HOA.out hba)
      have HB2 := Lib.hid (HB1.out.trans (hba.mono HB1.out.size))
      clear hrt hba HOA HB1 cA
      go_wp2_with fail
      refine cA2.out.mono ?_; rintro en wc ⟨Ac, cc, hcc, rfl, Kc⟩
      have HRA : Hid (Rd wc wc.heap.size 1 Ac (8 * n') ((List.replicate (8 * n') true).flatMap rcell)) := Lib.hid (by rw [rep_rcell]; exact Kc.rd 0 rfl)
      have HOA3 := Lib.hid (own_below HOA2.out Kc.below)
      have HB3 := Lib.hid (HB2.out.trans (Kc.below.mono HB2.out.size))
      clear Kc HOA2 HB2 cA2
      have cT2 := Lib.hid (cT.out wc HB3.out Ac cc HRA.out)
      go_wp2_with fail
      refine cT2.out.mono ?_; rintro en wd ⟨vd, rfl, hod, hbd⟩
      have HOD := Lib.hid hod
      have HOA4 := Lib.hid (own_below HOA3.out hbd)
      have HB4 := Lib.hid (HB3.out.trans (hbd.mono HB3.out.size))
      clear hod hbd HOA3 HB3 cT2 cT
      obtain ⟨Ad, cd, rfl⟩ := own_slice HOD.out
      go_wp2_with fail
      refine (cF.out _ HB4.out).mono ?_; rintro en we ⟨Ae, ce, rfl, Ke⟩
      have HRE := Lib.hid (Ke.rd 0 rfl)
      have HOA5 := Lib.hid (own_below HOA4.out Ke.below)
      have HOD5 := Lib.hid (own_below HOD.out Ke.below)
      have HB5 := Lib.hid (HB4.out.trans (Ke.below.mono HB4.out.size))
      clear Ke HOA4 HOD HB4 cF
      go_wp2_with fail
      refine (cG.out _ HB5.out).mono ?_; rintro en wf ⟨vf, rfl, hof, hbf⟩
      have HOF := Lib.hid hof
      have HRE6 := Lib.hid (HRE.out.later hbf)
      have HOA6 := Lib.hid (own_below HOA5.out hbf)
      have HOD6 := Lib.hid (own_below HOD5.out hbf)
      have HB6 := Lib.hid (HB5.out.trans (hbf.mono HB5.out.size))
      clear hof hbf HRE HOA5 HOD5 HB5 cG
      obtain ⟨Af, cf, rfl⟩ := own_slice HOF.out
      go_wp2_with fail
      refine (cM.out _ HB6.out).mono ?_; rintro en wg ⟨rfl, hbg⟩
      have HB7 := Lib.hid (HB6.out.trans (hbg.mono HB6.out.size))
      have HBG := Lib.hid hbg
      clear hbg cM
      go_wp2_with fail
      refine (cN.out _ HB7.out).mono ?_; rintro en wh ⟨rfl, hbh⟩
      have HB8 := Lib.hid (HB7.out.trans (hbh.mono HB7.out.size))
      have hgh := HBG.out.trans (hbh.mono HBG.out.size)
      have x1 := run_str_own (P := Try.prog) 34 9 5 Try.underlying34 Try.underlying5 Try.underlying9 (own_below HOA6.out hgh) HS1.out
      have x2 := run_str_own (P := Try.prog) 34 9 5 Try.underlying34 Try.underlying5 Try.underlying9 (own_below HOD6.out hgh) HS1.out
      have x3 := run_str_rd (P := Try.prog) (c := ce) 34 9 5 Try.underlying34 Try.underlying5 Try.underlying9 (HRE6.out.later hgh) HS2.out
      have x4 := run_str_own (P := Try.prog) 34 9 5 Try.underlying34 Try.underlying5 Try.underlying9 (own_below HOF.out hgh) HS2.out
      generalize strOf wl = z1 at x1 x2
      generalize strOf fl' = z2 at x3 x4
      clear hbh hgh HBG HB7 HB6
      cases mb
      all_goals
        go_wp2
        go_ret
        exact Ret.mk (bool_eq (by simp)) HB8.out
theorem byte_cells : Try.prog.cellsOf 5 = 1 := by kernel_rfl
theorem byte_parse {H : Type} {enc : TypeId × Value → H} {w : World} {base : Nat} {spare : Nat → Bool} {held : Bool} (n : Nat) (cs : List Value) (y : DataW H × List MemPlace)
    (h : DataW.trod enc Try.prog w base spare held n 5 cs = some y) : ∃ x : Nat, cs = bcell x ∧ x < 256 := by
  obtain ⟨z, rfl, _, wz⟩ := DataW.trod_int Try.underlying5 h
  obtain ⟨h0, h1⟩ := u8_bounds wz
  exact ⟨z.toNat, by simp [bcell]; omega, by omega⟩

set_option maxRecDepth 100000 in
theorem writes_lifted (os : Os) (started : os.Started) (H : Type) (enc : TypeId × Value → H) (F : Stop.Interp) :
    ReturnsInHanded {} Try.checked os 4 .any ((Rows.OpenSpec.upto Rows.cellWritesSpec).pre6 enc Try.prog Try.f4 Rows.cellWritesUptoRow.domain false)
      (((Rows.OpenSpec.upto Rows.cellWritesSpec).at F).post enc Try.prog Try.f4 false true false false) := by
  refine returnsInHanded_of_cond (C := Try.checked) (s := Rows.OpenSpec.upto Rows.cellWritesSpec) (k := Rows.uptoSmall) rfl own started (by kernel_rfl) Try.func4
    (OpenSpec.witness (enc := enc) (C := Try.checked) (s := Rows.OpenSpec.upto Rows.cellWritesSpec) (k := Rows.uptoSmall) rfl false ⟨#[], #[.int .i64 0, .slice none 0 0, .slice none 0 0], []⟩ 8 (by kernel_rfl) (by kernel_rfl) (by kernel_rfl)
      (x := ([.lit (.int .i64 0), .nil, .nil], [], [])) (by kernel_rfl) rfl (by kernel_rfl)) ?_
  intro W base args ds gs before hval0 hW hcnd hk _
  have hval : ∀ (j : Nat) t v, Try.f4.params[j]? = some t → args[j]? = some v → Value.okWide Try.prog W .any base t v := hval0
  have hW0 := hW
  obtain ⟨p, q, hA0, hV, _, _, _⟩ := hW
  have hA : DataW.TrodAll enc Try.prog W 0 (fun _ => true) true Try.f4.params.toList args.toList ds p := hA0
  rw [Try.params4] at hA hval
  obtain ⟨v0, vs0, d0, ds0, p0, q0, hargs, rfl, rfl, h0, r0⟩ := trodAll_cons hA
  obtain ⟨v1, vs1, d1, ds1, p1, q1, rfl, rfl, rfl, h1, r1⟩ := trodAll_cons r0
  obtain ⟨v2, vs2, d2, ds2, p2, q2, rfl, rfl, rfl, h2, r2⟩ := trodAll_cons r1
  obtain ⟨rfl, rfl, rfl⟩ := trodAll_nil r2
  obtain rfl : args = #[v0, v1, v2] := by cases args; simp_all
  obtain ⟨nn, rfl, rfl, rfl, _⟩ := open_int Try.underlying3 (hval 0 _ v0 rfl rfl) h0
  obtain ⟨fu, hf⟩ := h1
  obtain ⟨A, n, cap, l, hcs, hl, hnc, hcm, _, hrd, hQ, hd⟩ := open_list bcell (fun x => x < 256) Try.underlying34 byte_cells bcell_len (by omega) byte_parse hf
  obtain rfl := slice_of hcs (okWide_slice Try.underlying34 (hval 1 _ v1 rfl rfl))
  obtain ⟨fu', hf'⟩ := h2
  obtain ⟨A', n', cap', l', hcs', hl', hnc', hcm', _, hrd', hQ', hd'⟩ := open_list bcell (fun x => x < 256) Try.underlying34 byte_cells bcell_len (by omega) byte_parse hf'
  obtain rfl := slice_of hcs' (okWide_slice Try.underlying34 (hval 2 _ v2 rfl rfl))
  have hn := bulk_slice hk (by simp) hd
  have hn' := bulk_slice hk (by simp) hd'
  refine (writes_walk nn A A' n cap n' cap' l l' W hrd hl hn hQ hrd' hl' hn' hQ').mono fun e W' ⟨he, hg⟩ => ⟨_, he, ?_⟩
  exact law_post laidOut Try.underlying4 rfl rfl (by kernel_rfl) (fun xs hx => by
    match xs, hx with
    | [_, _, _], _ => rfl) hW0 hg

theorem writes_over : Rows.cellWritesUptoRow.holds Try.pinned (Rows.OpenSpec.upto Rows.cellWritesSpec) :=
  OpenClaim.holds_of_cond 4 Try.f4 rfl rfl rfl rfl rfl rfl rfl ⟨rfl, rfl, rfl, rfl, rfl⟩ rfl rfl rfl rfl rfl (by kernel_rfl) Try.func4 (by kernel_rfl)
    (of_decide_eq_true (by kernel_rfl)) (by unfold Func.isWrapper; first | (rw [if_pos (by decide +kernel)]; kernel_rfl) | (rw [if_neg (by decide +kernel)]; exact ⟨rfl, rfl⟩))
    (fun os started H enc _ F => writes_lifted os started H enc F)
end Cell
theorem cellWrites_holds : Rows.CellWritesUptoSaid := Cell.writes_over
end Go.Proofs.Ytakmfjnfkjdbfab
