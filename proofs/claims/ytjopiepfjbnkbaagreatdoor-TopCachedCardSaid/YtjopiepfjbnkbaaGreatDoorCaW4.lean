/-
  Walk of cache.do: read, write back all. Conditions: none beyond each theorem's own premises.
-/
import Derived.Test.YtjopiepfjbnkbaaGreatDoorCaW3
namespace Go.Proofs.YtjopiepfjbnkbaaGreatDoor
open Go.RowKit Go.Shelf
set_option linter.unusedVariables false
namespace Ca
theorem cint_info : (Tryz.prog.info? 3).map (fun i => (i.zero, i.size, i.bytes)) = some (some (.int .i64 0), 1, 8) := by kernel_rfl

set_option maxRecDepth 100000 in
set_option maxHeartbeats 3200000 in
theorem do_read_hit (gc sz np : Nat) (d : Int) (c : Cs) (l : List Pg) (p : Pg) (s' : Nat) (st' : List Int) (w0 w : World) (hs : St w0 w gc sz c) (hc : Ok sz c) (hz : sz ≤ 16) (hU : U sz c.L c.s c.st np true l p s' st') (hb : c.s < 140737488355328) (hr : c.rd.length ≤ 5864062014806) :
    Calls Tryz.prog 20 #[.pointer (some ⟨gc, 0, none⟩), .agg #[.int .i64 1, .int .i64 (np : Int), .int .i64 d]] w (fun e w' => e = .returned (.tuple #[]) ∧ St w0 w' gc sz ⟨l ++ [p], c.rd ++ [p.d], c.f, s', st'⟩) := by
  obtain ⟨A, cc, Ar, cr, bl, J, hbl, hcc, H0⟩ := hs
  obtain ⟨ti, HTI⟩ : ∃ ti, Hid (Tryz.prog.info? 3 = some ti ∧ ti.zero = some (.int .i64 0) ∧ ti.size = 1 ∧ ti.bytes = 8) := by
    obtain ⟨ti, hti, t0, t1, t2⟩ := info_parts cint_info
    exact ⟨ti, Lib.hid ⟨hti, t0, t1, t2⟩⟩
  have hk := hc.len
  have hU2 : ∀ W, Sep w0 W (ccI gc (.int .i64 (sz : Int)) (.slice A c.L.length cc) (.slice Ar c.rd.length cr) c.f c.s c.st :: ptI A c.L.length cc bl :: rdI Ar c.rd.length cr c.rd :: (objs bl c.L ++ (J ++ [opI w.heap.size 1 np d]))) → Calls Tryz.prog 42 #[.pointer (some ⟨gc, 0, none⟩), .int .i64 (np : Int)] W (UsePost w0 gc sz (.slice Ar c.rd.length cr) c.f (rdI Ar c.rd.length cr c.rd) (J ++ [opI w.heap.size 1 np d]) true l p s' st') := fun W H => use_u (n := 0) hU H hbl (by omega) hcc hc.low hc.nd hc.st hb
  have HU := Lib.hid hU2
  have H0' := Lib.hid H0
  clear hU2 H0 hc hU hk
  go_enter Tryz.func20, Tryz.ntmps20
  go_upto_region 1 with (fail)
  have HN0 := H0'.out.new 33 [.int .i64 1, .int .i64 np, .int .i64 d]
  have H1 : Hid (Sep w0 (w.alloc (.cells #[.int .i64 1, .int .i64 (np : Int), .int .i64 d] 33)) (ccI gc (.int .i64 (sz : Int)) (.slice A c.L.length cc) (.slice Ar c.rd.length cr) c.f c.s c.st :: ptI A c.L.length cc bl :: rdI Ar c.rd.length cr c.rd :: (objs bl c.L ++ (J ++ [opI w.heap.size 1 np d])))) := Lib.hid (by rw [← List.append_assoc]; exact HN0)
  have f0 := (Blk.new w 33 [.int .i64 1, .int .i64 (np : Int), .int .i64 d]).cell (k := 0) rfl
  have f1 := (Blk.new w 33 [.int .i64 1, .int .i64 (np : Int), .int .i64 d]).cell (k := 1) rfl
  have cU := Lib.hid (HU.out _ H1.out)
  clear H0' HN0 HU H1
  generalize w.alloc (.cells #[.int .i64 1, .int .i64 (np : Int), .int .i64 d] 33) = w1 at f0 f1 cU ⊢
  generalize w.heap.size = gx at f0 f1 cU ⊢
  go_wp2_with fail
  refine cU.out.mono ?_; rintro en w3 ⟨A6, c6, bl6, g, K, rfl, hbp, hcp, H3'⟩
  have H3 := Lib.hid (use_front hbp H3')
  have HBP := Lib.hid hbp
  have HCP := Lib.hid hcp
  clear H3' hbp hcp cU f0 f1
  have f0 := H3.out.cell 4 rfl (k := 0) rfl
  obtain ⟨yn, yd, yw⟩ := p
  obtain ⟨fz, HFZ⟩ : ∃ z, Hid (z = c.f) := ⟨_, Lib.hid rfl⟩
  have HA := Lib.hid H3.out
  rw [← HFZ.out] at HA
  generalize w3 = wa at HA f0 ⊢
  obtain ⟨m6, HM6⟩ : ∃ m, Hid (m = l.length + 1) := ⟨_, Lib.hid rfl⟩
  obtain ⟨bz, HBZ⟩ : ∃ z, Hid (z = bl6 ++ [g]) := ⟨_, Lib.hid rfl⟩
  obtain ⟨nr, HNR⟩ : ∃ m, Hid (m = c.rd.length) := ⟨_, Lib.hid rfl⟩
  obtain ⟨rd, HRD⟩ : ∃ z, Hid (z = c.rd) := ⟨_, Lib.hid rfl⟩
  obtain ⟨TT, HTT⟩ : ∃ z, Hid (z = opI gx 1 np d :: (objs bl6 l ++ (J ++ K))) := ⟨_, Lib.hid rfl⟩
  have hnr : nr ≤ 5864062014806 := by rw [HNR.out]; exact hr
  have HB : Hid (Sep w0 wa (ccI gc (.int .i64 (sz : Int)) (.slice A6 m6 c6) (.slice Ar nr cr) fz s' st' :: ptI A6 m6 c6 bz :: .row 3 1 (.slice Ar nr cr) nr (rd.flatMap icell) :: pgI g ⟨yn, yd, yw⟩ :: TT)) := Lib.hid (by rw [HM6.out, HBZ.out, HNR.out, HRD.out, HTT.out]; exact HA.out)
  clear HA
  go_upto_region 13 with (fail)
  clear f0
  refine wp_region_inv0 (fun ac0 L ac w' => ∃ x64 x65 x66 x67 x68 x69 x70 x71 x72 x73 x74 x75 x76 x77 x78, ac = turn ac0 [(64, x64), (65, x65), (66, x66), (67, x67), (68, x68), (69, x69), (70, x70), (71, x71), (72, x72), (73, x73), (74, x74), (75, x75), (76, x76), (77, x77), (78, x78)] ∧ (L 0 = true → x64 = .pointer (some ⟨gc, 0, none⟩)) ∧ (L 1 = true → x65 = .pointer (some ⟨gc, 0, none⟩)) ∧ (L 2 = true → x66 = .pointer (some ⟨gc, 0, none⟩)) ∧ (L 3 = true → x67 = .pointer (some ⟨gc, 2, none⟩)) ∧ (L 4 = true → x68 = .pointer (some ⟨gc, 2, none⟩)) ∧ (L 5 = true → x69 = .slice Ar nr cr) ∧ (L 6 = true → x70 = .pointer (some ⟨g, 0, none⟩)) ∧ (L 7 = true → x71 = .pointer (some ⟨g, 0, none⟩)) ∧ (L 8 = true → x72 = .pointer (some ⟨g, 1, none⟩)) ∧ (L 9 = true → x73 = .int .i64 yd) ∧ (L 12 = true → x76 = .pointer (some ⟨gc, 0, none⟩)) ∧ (L 13 = true → x77 = .pointer (some ⟨gc, 2, none⟩)) ∧ (L 14 = true → x78 = .pointer (some ⟨gc, 2, none⟩)) ∧ (L 2 = true → L 1 = true) ∧ (L 3 = true → L 2 = true) ∧ (L 4 = true → L 3 = true) ∧ (L 5 = true → L 4 = true) ∧ (L 7 = true → L 6 = true) ∧ (L 8 = true → L 7 = true) ∧ (L 9 = true → L 8 = true) ∧ (L 10 = true → L 9 = true) ∧ (L 11 = true → L 5 = true ∧ L 10 = true) ∧ (L 12 = true → L 0 = true ∧ L 1 = true ∧ L 2 = true ∧ L 3 = true ∧ L 4 = true ∧ L 5 = true ∧ L 6 = true ∧ L 7 = true ∧ L 8 = true ∧ L 9 = true ∧ L 10 = true ∧ L 11 = true) ∧ (L 13 = true → L 0 = true ∧ L 1 = true ∧ L 2 = true ∧ L 3 = true ∧ L 4 = true ∧ L 5 = true ∧ L 6 = true ∧ L 7 = true ∧ L 8 = true ∧ L 9 = true ∧ L 10 = true ∧ L 11 = true ∧ L 12 = true) ∧ (L 14 = true → L 0 = true ∧ L 1 = true ∧ L 2 = true ∧ L 3 = true ∧ L 4 = true ∧ L 5 = true ∧ L 6 = true ∧ L 7 = true ∧ L 8 = true ∧ L 9 = true ∧ L 10 = true ∧ L 11 = true ∧ L 13 = true) ∧ (L 15 = true → L 0 = true ∧ L 1 = true ∧ L 2 = true ∧ L 3 = true ∧ L 4 = true ∧ L 5 = true ∧ L 6 = true ∧ L 7 = true ∧ L 8 = true ∧ L 9 = true ∧ L 10 = true ∧ L 11 = true ∧ L 14 = true) ∧ (if L 15 = true then (∃ A' c', x75 = .slice A' (nr + 1) c' ∧ nr + 1 ≤ c' ∧ Sep w0 w' (ccI gc (.int .i64 (sz : Int)) (.slice A6 m6 c6) (.slice A' (nr + 1) c') fz s' st' :: ptI A6 m6 c6 bz :: .row 3 1 (.slice A' (nr + 1) c') (nr + 1) (rd.flatMap icell ++ [.int .i64 yd]) :: pgI g ⟨yn, yd, yw⟩ :: TT)) else (if L 11 = true then (∃ A' c', x75 = .slice A' (nr + 1) c' ∧ nr + 1 ≤ c' ∧ Sep w0 w' (ccI gc (.int .i64 (sz : Int)) (.slice A6 m6 c6) (.slice Ar nr cr) fz s' st' :: ptI A6 m6 c6 bz :: .row 3 1 (.slice A' (nr + 1) c') (nr + 1) (rd.flatMap icell ++ [.int .i64 yd]) :: pgI g ⟨yn, yd, yw⟩ :: TT)) else (if L 10 = true then (∃ gv B, x74 = .slice (some ⟨gv, 0, none⟩) 1 1 ∧ Rd w' B 1 (some ⟨gv, 0, none⟩) 1 [.int .i64 yd] ∧ Sep w0 w' (ccI gc (.int .i64 (sz : Int)) (.slice A6 m6 c6) (.slice Ar nr cr) fz s' st' :: ptI A6 m6 c6 bz :: .row 3 1 (.slice Ar nr cr) nr (rd.flatMap icell) :: pgI g ⟨yn, yd, yw⟩ :: TT)) else Sep w0 w' (ccI gc (.int .i64 (sz : Int)) (.slice A6 m6 c6) (.slice Ar nr cr) fz s' st' :: ptI A6 m6 c6 bz :: .row 3 1 (.slice Ar nr cr) nr (rd.flatMap icell) :: pgI g ⟨yn, yd, yw⟩ :: TT))))) rfl (by kernel_rfl) ?_ ?_ ?_
  · simp only [turn, List.foldl_cons, List.foldl_nil, List.setIfInBounds_toArray, List.set_cons_succ, List.set_cons_zero]
    exact ⟨_, _, _, _, _, _, _, _, _, _, _, _, _, _, _, rfl, (fun h => absurd h (by decide)), (fun h => absurd h (by decide)), (fun h => absurd h (by decide)), (fun h => absurd h (by decide)), (fun h => absurd h (by decide)), (fun h => absurd h (by decide)), (fun h => absurd h (by decide)), (fun h => absurd h (by decide)), (fun h => absurd h (by decide)), (fun h => absurd h (by decide)), (fun h => absurd h (by decide)), (fun h => absurd h (by decide)), (fun h => absurd h (by decide)), (fun h => absurd h (by decide)), (fun h => absurd h (by decide)), (fun h => absurd h (by decide)), (fun h => absurd h (by decide)), (fun h => absurd h (by decide)), (fun h => absurd h (by decide)), (fun h => absurd h (by decide)), (fun h => absurd h (by decide)), (fun h => absurd h (by decide)), (fun h => absurd h (by decide)), (fun h => absurd h (by decide)), (fun h => absurd h (by decide)), (fun h => absurd h (by decide)), by simpa using HB.out.drew⟩
  · rintro L ac w' i o ⟨x64, x65, x66, x67, x68, x69, x70, x71, x72, x73, x74, x75, x76, x77, x78, ha, p0, p1, p2, p3, p4, p5, p6, p7, p8, p9, p12, p13, p14, q2, q3, q4, q5, q7, q8, q9, q10, q11, q12, q13, q14, q15, hS⟩ ho hi he
    simp only [turn, List.foldl_cons, List.foldl_nil, List.setIfInBounds_toArray, List.set_cons_succ, List.set_cons_zero] at ha ⊢
    subst ha
    rcases i with _|_|_|_|_|_|_|_|_|_|_|_|_|_|_|_|i
    all_goals cases ho
    all_goals simp [Region.binds] at he
    · have h12 : L 12 = false := by cases hh : L 12 with | false => rfl | true => (have hq := q12 hh; simp [hi] at hq)
      have h13 : L 13 = false := by cases hh : L 13 with | false => rfl | true => (have hq := q13 hh; simp [hi] at hq)
      have h14 : L 14 = false := by cases hh : L 14 with | false => rfl | true => (have hq := q14 hh; simp [hi] at hq)
      have h15 : L 15 = false := by cases hh : L 15 with | false => rfl | true => (have hq := q15 hh; simp [hi] at hq)
      refine wpOp_step rfl (fun K hK => ?_)
      go_simp
      exact hK _ _ ⟨_, _, _, _, _, _, _, _, _, _, _, _, _, _, _, rfl, (fun _ => rfl), (by first | exact p1 | exact fun _ => rfl), (by first | exact p2 | exact fun _ => rfl), (by first | exact p3 | exact fun _ => rfl), (by first | exact p4 | exact fun _ => rfl), (by first | exact p5 | exact fun _ => rfl), (by first | exact p6 | exact fun _ => rfl), (by first | exact p7 | exact fun _ => rfl), (by first | exact p8 | exact fun _ => rfl), (by first | exact p9 | exact fun _ => rfl), (by simp [h12]), (by simp [h13]), (by simp [h14]), (by simpa using q2), (by simpa using q3), (by simpa using q4), (by simpa using q5), (by simpa using q7), (by simpa using q8), (by simpa using q9), (by simpa using q10), (by simpa using q11), (by simp [h12]), (by simp [h13]), (by simp [h14]), (by simp [h15]), (by simpa [h12, h13, h14, h15] using hS)⟩
    · have h2 : L 2 = false := by cases hh : L 2 with | false => rfl | true => (have hq := q2 hh; simp [hi] at hq)
      have h12 : L 12 = false := by cases hh : L 12 with | false => rfl | true => (have hq := q12 hh; simp [hi] at hq)
      have h13 : L 13 = false := by cases hh : L 13 with | false => rfl | true => (have hq := q13 hh; simp [hi] at hq)
      have h14 : L 14 = false := by cases hh : L 14 with | false => rfl | true => (have hq := q14 hh; simp [hi] at hq)
      have h15 : L 15 = false := by cases hh : L 15 with | false => rfl | true => (have hq := q15 hh; simp [hi] at hq)
      have h3 : L 3 = false := by cases hh : L 3 with | false => rfl | true => (have hq := q3 hh; simp [h2] at hq)
      have h4 : L 4 = false := by cases hh : L 4 with | false => rfl | true => (have hq := q4 hh; simp [h3] at hq)
      have h5 : L 5 = false := by cases hh : L 5 with | false => rfl | true => (have hq := q5 hh; simp [h4] at hq)
      have h11 : L 11 = false := by cases hh : L 11 with | false => rfl | true => (have hq := q11 hh; simp [h5] at hq)
      refine wpOp_step rfl (fun K hK => ?_)
      go_simp
      exact hK _ _ ⟨_, _, _, _, _, _, _, _, _, _, _, _, _, _, _, rfl, (by first | exact p0 | exact fun _ => rfl), (fun _ => rfl), (by simp [h2]), (by simp [h3]), (by simp [h4]), (by simp [h5]), (by first | exact p6 | exact fun _ => rfl), (by first | exact p7 | exact fun _ => rfl), (by first | exact p8 | exact fun _ => rfl), (by first | exact p9 | exact fun _ => rfl), (by simp [h12]), (by simp [h13]), (by simp [h14]), (by simp [h2]), (by simp [h3]), (by simp [h4]), (by simp [h5]), (by simpa using q7), (by simpa using q8), (by simpa using q9), (by simpa using q10), (by simp [h11]), (by simp [h12]), (by simp [h13]), (by simp [h14]), (by simp [h15]), (by simpa [h2, h12, h13, h14, h15, h3, h4, h5, h11] using hS)⟩
    · have h3 : L 3 = false := by cases hh : L 3 with | false => rfl | true => (have hq := q3 hh; simp [hi] at hq)
      have h12 : L 12 = false := by cases hh : L 12 with | false => rfl | true => (have hq := q12 hh; simp [hi] at hq)
      have h13 : L 13 = false := by cases hh : L 13 with | false => rfl | true => (have hq := q13 hh; simp [hi] at hq)
      have h14 : L 14 = false := by cases hh : L 14 with | false => rfl | true => (have hq := q14 hh; simp [hi] at hq)
      have h15 : L 15 = false := by cases hh : L 15 with | false => rfl | true => (have hq := q15 hh; simp [hi] at hq)
      have h4 : L 4 = false := by cases hh : L 4 with | false => rfl | true => (have hq := q4 hh; simp [h3] at hq)
      have h5 : L 5 = false := by cases hh : L 5 with | false => rfl | true => (have hq := q5 hh; simp [h4] at hq)
      have h11 : L 11 = false := by cases hh : L 11 with | false => rfl | true => (have hq := q11 hh; simp [h5] at hq)
      obtain rfl := p1 (by simp [he])
      refine wpOp_step rfl (fun K hK => ?_)
      go_simp
      exact hK _ _ ⟨_, _, _, _, _, _, _, _, _, _, _, _, _, _, _, rfl, (by first | exact p0 | exact fun _ => rfl), (by first | exact p1 | exact fun _ => rfl), (fun _ => rfl), (by simp [h3]), (by simp [h4]), (by simp [h5]), (by first | exact p6 | exact fun _ => rfl), (by first | exact p7 | exact fun _ => rfl), (by first | exact p8 | exact fun _ => rfl), (by first | exact p9 | exact fun _ => rfl), (by simp [h12]), (by simp [h13]), (by simp [h14]), (by simp [he]), (by simp [h3]), (by simp [h4]), (by simp [h5]), (by simpa using q7), (by simpa using q8), (by simpa using q9), (by simpa using q10), (by simp [h11]), (by simp [h12]), (by simp [h13]), (by simp [h14]), (by simp [h15]), (by simpa [h3, h12, h13, h14, h15, h4, h5, h11] using hS)⟩
    · have h4 : L 4 = false := by cases hh : L 4 with | false => rfl | true => (have hq := q4 hh; simp [hi] at hq)
      have h12 : L 12 = false := by cases hh : L 12 with | false => rfl | true => (have hq := q12 hh; simp [hi] at hq)
      have h13 : L 13 = false := by cases hh : L 13 with | false => rfl | true => (have hq := q13 hh; simp [hi] at hq)
      have h14 : L 14 = false := by cases hh : L 14 with | false => rfl | true => (have hq := q14 hh; simp [hi] at hq)
      have h15 : L 15 = false := by cases hh : L 15 with | false => rfl | true => (have hq := q15 hh; simp [hi] at hq)
      have h5 : L 5 = false := by cases hh : L 5 with | false => rfl | true => (have hq := q5 hh; simp [h4] at hq)
      have h11 : L 11 = false := by cases hh : L 11 with | false => rfl | true => (have hq := q11 hh; simp [h5] at hq)
      obtain rfl := p2 (by simp [he])
      refine wpOp_step rfl (fun K hK => ?_)
      go_simp
      exact hK _ _ ⟨_, _, _, _, _, _, _, _, _, _, _, _, _, _, _, rfl, (by first | exact p0 | exact fun _ => rfl), (by first | exact p1 | exact fun _ => rfl), (by first | exact p2 | exact fun _ => rfl), (fun _ => rfl), (by simp [h4]), (by simp [h5]), (by first | exact p6 | exact fun _ => rfl), (by first | exact p7 | exact fun _ => rfl), (by first | exact p8 | exact fun _ => rfl), (by first | exact p9 | exact fun _ => rfl), (by simp [h12]), (by simp [h13]), (by simp [h14]), (by simpa using q2), (by simp [he]), (by simp [h4]), (by simp [h5]), (by simpa using q7), (by simpa using q8), (by simpa using q9), (by simpa using q10), (by simp [h11]), (by simp [h12]), (by simp [h13]), (by simp [h14]), (by simp [h15]), (by simpa [h4, h12, h13, h14, h15, h5, h11] using hS)⟩
    · have h5 : L 5 = false := by cases hh : L 5 with | false => rfl | true => (have hq := q5 hh; simp [hi] at hq)
      have h12 : L 12 = false := by cases hh : L 12 with | false => rfl | true => (have hq := q12 hh; simp [hi] at hq)
      have h13 : L 13 = false := by cases hh : L 13 with | false => rfl | true => (have hq := q13 hh; simp [hi] at hq)
      have h14 : L 14 = false := by cases hh : L 14 with | false => rfl | true => (have hq := q14 hh; simp [hi] at hq)
      have h15 : L 15 = false := by cases hh : L 15 with | false => rfl | true => (have hq := q15 hh; simp [hi] at hq)
      have h11 : L 11 = false := by cases hh : L 11 with | false => rfl | true => (have hq := q11 hh; simp [h5] at hq)
      obtain rfl := p3 (by simp [he])
      refine wpOp_step rfl (fun K hK => ?_)
      go_simp
      exact hK _ _ ⟨_, _, _, _, _, _, _, _, _, _, _, _, _, _, _, rfl, (by first | exact p0 | exact fun _ => rfl), (by first | exact p1 | exact fun _ => rfl), (by first | exact p2 | exact fun _ => rfl), (by first | exact p3 | exact fun _ => rfl), (fun _ => rfl), (by simp [h5]), (by first | exact p6 | exact fun _ => rfl), (by first | exact p7 | exact fun _ => rfl), (by first | exact p8 | exact fun _ => rfl), (by first | exact p9 | exact fun _ => rfl), (by simp [h12]), (by simp [h13]), (by simp [h14]), (by simpa using q2), (by simpa using q3), (by simp [he]), (by simp [h5]), (by simpa using q7), (by simpa using q8), (by simpa using q9), (by simpa using q10), (by simp [h11]), (by simp [h12]), (by simp [h13]), (by simp [h14]), (by simp [h15]), (by simpa [h5, h12, h13, h14, h15, h11] using hS)⟩
    · have h11 : L 11 = false := by cases hh : L 11 with | false => rfl | true => (have hq := q11 hh; simp [hi] at hq)
      have h12 : L 12 = false := by cases hh : L 12 with | false => rfl | true => (have hq := q12 hh; simp [hi] at hq)
      have h13 : L 13 = false := by cases hh : L 13 with | false => rfl | true => (have hq := q13 hh; simp [hi] at hq)
      have h14 : L 14 = false := by cases hh : L 14 with | false => rfl | true => (have hq := q14 hh; simp [hi] at hq)
      have h15 : L 15 = false := by cases hh : L 15 with | false => rfl | true => (have hq := q15 hh; simp [hi] at hq)
      obtain rfl := p4 (by simp [he])
      have f0 : w'.cell? ⟨gc, 2, none⟩ = some (.slice Ar nr cr) := by
        rw [if_neg (by simp [h15]), if_neg (by simp [h11])] at hS
        split at hS
        · obtain ⟨gv, _, _, _, S⟩ := hS
          exact S.cell 0 rfl (k := 2) rfl
        · exact hS.cell 0 rfl (k := 2) rfl
      refine wpOp_step rfl (fun K hK => ?_)
      go_simp
      exact hK _ _ ⟨_, _, _, _, _, _, _, _, _, _, _, _, _, _, _, rfl, (by first | exact p0 | exact fun _ => rfl), (by first | exact p1 | exact fun _ => rfl), (by first | exact p2 | exact fun _ => rfl), (by first | exact p3 | exact fun _ => rfl), (by first | exact p4 | exact fun _ => rfl), (fun _ => rfl), (by first | exact p6 | exact fun _ => rfl), (by first | exact p7 | exact fun _ => rfl), (by first | exact p8 | exact fun _ => rfl), (by first | exact p9 | exact fun _ => rfl), (by simp [h12]), (by simp [h13]), (by simp [h14]), (by simpa using q2), (by simpa using q3), (by simpa using q4), (by simp [he]), (by simpa using q7), (by simpa using q8), (by simpa using q9), (by simpa using q10), (by simp [h11]), (by simp [h12]), (by simp [h13]), (by simp [h14]), (by simp [h15]), (by simpa [h11, h12, h13, h14, h15] using hS)⟩
    · have h7 : L 7 = false := by cases hh : L 7 with | false => rfl | true => (have hq := q7 hh; simp [hi] at hq)
      have h12 : L 12 = false := by cases hh : L 12 with | false => rfl | true => (have hq := q12 hh; simp [hi] at hq)
      have h13 : L 13 = false := by cases hh : L 13 with | false => rfl | true => (have hq := q13 hh; simp [hi] at hq)
      have h14 : L 14 = false := by cases hh : L 14 with | false => rfl | true => (have hq := q14 hh; simp [hi] at hq)
      have h15 : L 15 = false := by cases hh : L 15 with | false => rfl | true => (have hq := q15 hh; simp [hi] at hq)
      have h8 : L 8 = false := by cases hh : L 8 with | false => rfl | true => (have hq := q8 hh; simp [h7] at hq)
      have h9 : L 9 = false := by cases hh : L 9 with | false => rfl | true => (have hq := q9 hh; simp [h8] at hq)
      have h10 : L 10 = false := by cases hh : L 10 with | false => rfl | true => (have hq := q10 hh; simp [h9] at hq)
      have h11 : L 11 = false := by cases hh : L 11 with | false => rfl | true => (have hq := q11 hh; simp [h10] at hq)
      refine wpOp_step rfl (fun K hK => ?_)
      go_simp
      exact hK _ _ ⟨_, _, _, _, _, _, _, _, _, _, _, _, _, _, _, rfl, (by first | exact p0 | exact fun _ => rfl), (by first | exact p1 | exact fun _ => rfl), (by first | exact p2 | exact fun _ => rfl), (by first | exact p3 | exact fun _ => rfl), (by first | exact p4 | exact fun _ => rfl), (by first | exact p5 | exact fun _ => rfl), (fun _ => rfl), (by simp [h7]), (by simp [h8]), (by simp [h9]), (by simp [h12]), (by simp [h13]), (by simp [h14]), (by simpa using q2), (by simpa using q3), (by simpa using q4), (by simpa using q5), (by simp [h7]), (by simp [h8]), (by simp [h9]), (by simp [h10]), (by simp [h11]), (by simp [h12]), (by simp [h13]), (by simp [h14]), (by simp [h15]), (by simpa [h7, h12, h13, h14, h15, h8, h9, h10, h11] using hS)⟩
    · have h8 : L 8 = false := by cases hh : L 8 with | false => rfl | true => (have hq := q8 hh; simp [hi] at hq)
      have h12 : L 12 = false := by cases hh : L 12 with | false => rfl | true => (have hq := q12 hh; simp [hi] at hq)
      have h13 : L 13 = false := by cases hh : L 13 with | false => rfl | true => (have hq := q13 hh; simp [hi] at hq)
      have h14 : L 14 = false := by cases hh : L 14 with | false => rfl | true => (have hq := q14 hh; simp [hi] at hq)
      have h15 : L 15 = false := by cases hh : L 15 with | false => rfl | true => (have hq := q15 hh; simp [hi] at hq)
      have h9 : L 9 = false := by cases hh : L 9 with | false => rfl | true => (have hq := q9 hh; simp [h8] at hq)
      have h10 : L 10 = false := by cases hh : L 10 with | false => rfl | true => (have hq := q10 hh; simp [h9] at hq)
      have h11 : L 11 = false := by cases hh : L 11 with | false => rfl | true => (have hq := q11 hh; simp [h10] at hq)
      obtain rfl := p6 (by simp [he])
      refine wpOp_step rfl (fun K hK => ?_)
      go_simp
      exact hK _ _ ⟨_, _, _, _, _, _, _, _, _, _, _, _, _, _, _, rfl, (by first | exact p0 | exact fun _ => rfl), (by first | exact p1 | exact fun _ => rfl), (by first | exact p2 | exact fun _ => rfl), (by first | exact p3 | exact fun _ => rfl), (by first | exact p4 | exact fun _ => rfl), (by first | exact p5 | exact fun _ => rfl), (by first | exact p6 | exact fun _ => rfl), (fun _ => rfl), (by simp [h8]), (by simp [h9]), (by simp [h12]), (by simp [h13]), (by simp [h14]), (by simpa using q2), (by simpa using q3), (by simpa using q4), (by simpa using q5), (by simp [he]), (by simp [h8]), (by simp [h9]), (by simp [h10]), (by simp [h11]), (by simp [h12]), (by simp [h13]), (by simp [h14]), (by simp [h15]), (by simpa [h8, h12, h13, h14, h15, h9, h10, h11] using hS)⟩
    · have h9 : L 9 = false := by cases hh : L 9 with | false => rfl | true => (have hq := q9 hh; simp [hi] at hq)
      have h12 : L 12 = false := by cases hh : L 12 with | false => rfl | true => (have hq := q12 hh; simp [hi] at hq)
      have h13 : L 13 = false := by cases hh : L 13 with | false => rfl | true => (have hq := q13 hh; simp [hi] at hq)
      have h14 : L 14 = false := by cases hh : L 14 with | false => rfl | true => (have hq := q14 hh; simp [hi] at hq)
      have h15 : L 15 = false := by cases hh : L 15 with | false => rfl | true => (have hq := q15 hh; simp [hi] at hq)
      have h10 : L 10 = false := by cases hh : L 10 with | false => rfl | true => (have hq := q10 hh; simp [h9] at hq)
      have h11 : L 11 = false := by cases hh : L 11 with | false => rfl | true => (have hq := q11 hh; simp [h10] at hq)
      obtain rfl := p7 (by simp [he])
      refine wpOp_step rfl (fun K hK => ?_)
      go_simp
      exact hK _ _ ⟨_, _, _, _, _, _, _, _, _, _, _, _, _, _, _, rfl, (by first | exact p0 | exact fun _ => rfl), (by first | exact p1 | exact fun _ => rfl), (by first | exact p2 | exact fun _ => rfl), (by first | exact p3 | exact fun _ => rfl), (by first | exact p4 | exact fun _ => rfl), (by first | exact p5 | exact fun _ => rfl), (by first | exact p6 | exact fun _ => rfl), (by first | exact p7 | exact fun _ => rfl), (fun _ => rfl), (by simp [h9]), (by simp [h12]), (by simp [h13]), (by simp [h14]), (by simpa using q2), (by simpa using q3), (by simpa using q4), (by simpa using q5), (by simpa using q7), (by simp [he]), (by simp [h9]), (by simp [h10]), (by simp [h11]), (by simp [h12]), (by simp [h13]), (by simp [h14]), (by simp [h15]), (by simpa [h9, h12, h13, h14, h15, h10, h11] using hS)⟩
    · have h10 : L 10 = false := by cases hh : L 10 with | false => rfl | true => (have hq := q10 hh; simp [hi] at hq)
      have h12 : L 12 = false := by cases hh : L 12 with | false => rfl | true => (have hq := q12 hh; simp [hi] at hq)
      have h13 : L 13 = false := by cases hh : L 13 with | false => rfl | true => (have hq := q13 hh; simp [hi] at hq)
      have h14 : L 14 = false := by cases hh : L 14 with | false => rfl | true => (have hq := q14 hh; simp [hi] at hq)
      have h15 : L 15 = false := by cases hh : L 15 with | false => rfl | true => (have hq := q15 hh; simp [hi] at hq)
      have h11 : L 11 = false := by cases hh : L 11 with | false => rfl | true => (have hq := q11 hh; simp [h10] at hq)
      obtain rfl := p8 (by simp [he])
      have f0 : w'.cell? ⟨g, 1, none⟩ = some (.int .i64 yd) := by
        rw [if_neg (by simp [h15]), if_neg (by simp [h11]), if_neg (by simp [h10])] at hS
        exact hS.cell 3 rfl (k := 1) rfl
      refine wpOp_step rfl (fun K hK => ?_)
      go_simp
      exact hK _ _ ⟨_, _, _, _, _, _, _, _, _, _, _, _, _, _, _, rfl, (by first | exact p0 | exact fun _ => rfl), (by first | exact p1 | exact fun _ => rfl), (by first | exact p2 | exact fun _ => rfl), (by first | exact p3 | exact fun _ => rfl), (by first | exact p4 | exact fun _ => rfl), (by first | exact p5 | exact fun _ => rfl), (by first | exact p6 | exact fun _ => rfl), (by first | exact p7 | exact fun _ => rfl), (by first | exact p8 | exact fun _ => rfl), (fun _ => rfl), (by simp [h12]), (by simp [h13]), (by simp [h14]), (by simpa using q2), (by simpa using q3), (by simpa using q4), (by simpa using q5), (by simpa using q7), (by simpa using q8), (by simp [he]), (by simp [h10]), (by simp [h11]), (by simp [h12]), (by simp [h13]), (by simp [h14]), (by simp [h15]), (by simpa [h10, h12, h13, h14, h15, h11] using hS)⟩
    · have h11 : L 11 = false := by cases hh : L 11 with | false => rfl | true => (have hq := q11 hh; simp [hi] at hq)
      have h12 : L 12 = false := by cases hh : L 12 with | false => rfl | true => (have hq := q12 hh; simp [hi] at hq)
      have h13 : L 13 = false := by cases hh : L 13 with | false => rfl | true => (have hq := q13 hh; simp [hi] at hq)
      have h14 : L 14 = false := by cases hh : L 14 with | false => rfl | true => (have hq := q14 hh; simp [hi] at hq)
      have h15 : L 15 = false := by cases hh : L 15 with | false => rfl | true => (have hq := q15 hh; simp [hi] at hq)
      obtain rfl := p9 (by simp [he])
      rw [if_neg (by simp [h15]), if_neg (by simp [h11]), if_neg (by simp [hi])] at hS
      have hN := hS.alloc (.cells #[.int .i64 yd] 3)
      have hv0 := Rd.of_own (own_new w' 3 #[.int .i64 yd] 1 1 rfl (by simp [maxLen]) (Nat.le_refl _))
      refine wpOp_step rfl (fun K hK => ?_)
      go_simp
      exact hK _ _ ⟨_, _, _, _, _, _, _, _, _, _, _, _, _, _, _, rfl, (by first | exact p0 | exact fun _ => rfl), (by first | exact p1 | exact fun _ => rfl), (by first | exact p2 | exact fun _ => rfl), (by first | exact p3 | exact fun _ => rfl), (by first | exact p4 | exact fun _ => rfl), (by first | exact p5 | exact fun _ => rfl), (by first | exact p6 | exact fun _ => rfl), (by first | exact p7 | exact fun _ => rfl), (by first | exact p8 | exact fun _ => rfl), (by first | exact p9 | exact fun _ => rfl), (by simp [h12]), (by simp [h13]), (by simp [h14]), (by simpa using q2), (by simpa using q3), (by simpa using q4), (by simpa using q5), (by simpa using q7), (by simpa using q8), (by simpa using q9), (by simp [he]), (by simp [h11]), (by simp [h12]), (by simp [h13]), (by simp [h14]), (by simp [h15]), (by rw [if_neg (by simp [h15]), if_neg (by simp [h11]), if_pos (by simp)]; exact ⟨_, _, rfl, hv0, hN⟩)⟩
    · have h12 : L 12 = false := by cases hh : L 12 with | false => rfl | true => (have hq := q12 hh; simp [hi] at hq)
      have h13 : L 13 = false := by cases hh : L 13 with | false => rfl | true => (have hq := q13 hh; simp [hi] at hq)
      have h14 : L 14 = false := by cases hh : L 14 with | false => rfl | true => (have hq := q14 hh; simp [hi] at hq)
      have h15 : L 15 = false := by cases hh : L 15 with | false => rfl | true => (have hq := q15 hh; simp [hi] at hq)
      obtain rfl := p5 (by simp [he])
      have t10 : L 10 = true := by simp [he]
      rw [if_neg (by simp [h15]), if_neg (by simp [hi]), if_pos t10] at hS
      obtain ⟨gv, B, rfl, hv0, hS⟩ := hS
      refine wpOp_at rfl rfl ?_
      refine oper_append_sep hS 2 (.tmp 69) (.tmp 74) 24 rfl 3 ti (.int .i64 0) 1 8 Tryz.underlying24 HTI.out.1 HTI.out.2.1 HTI.out.2.2.1 HTI.out.2.2.2 rfl (by omega) _ nr _ rfl rfl _ _ 1 1 _ rfl hv0 (by simp [Value.oneCell']) (by simp only [maxLen]; omega) (by omega) ?_
      intro A' c' w5 hc' _ K5
      exact ⟨_, _, _, _, _, _, _, _, _, _, _, _, _, _, _, rfl, (by first | exact p0 | exact fun _ => rfl), (by first | exact p1 | exact fun _ => rfl), (by first | exact p2 | exact fun _ => rfl), (by first | exact p3 | exact fun _ => rfl), (by first | exact p4 | exact fun _ => rfl), (by first | exact p5 | exact fun _ => rfl), (by first | exact p6 | exact fun _ => rfl), (by first | exact p7 | exact fun _ => rfl), (by first | exact p8 | exact fun _ => rfl), (by first | exact p9 | exact fun _ => rfl), (by simp [h12]), (by simp [h13]), (by simp [h14]), (by simpa using q2), (by simpa using q3), (by simpa using q4), (by simpa using q5), (by simpa using q7), (by simpa using q8), (by simpa using q9), (by simpa using q10), (by simp [he]), (by simp [h12]), (by simp [h13]), (by simp [h14]), (by simp [h15]), (by rw [if_neg (by simp [h15]), if_pos (by simp)]; exact ⟨A', c', rfl, hc', K5⟩)⟩
    · have h13 : L 13 = false := by cases hh : L 13 with | false => rfl | true => (have hq := q13 hh; simp [hi] at hq)
      have h14 : L 14 = false := by cases hh : L 14 with | false => rfl | true => (have hq := q14 hh; simp [h13] at hq)
      have h15 : L 15 = false := by cases hh : L 15 with | false => rfl | true => (have hq := q15 hh; simp [h14] at hq)
      obtain rfl := p0 (by simp [he])
      refine wpOp_step rfl (fun K hK => ?_)
      go_simp
      exact hK _ _ ⟨_, _, _, _, _, _, _, _, _, _, _, _, _, _, _, rfl, (by first | exact p0 | exact fun _ => rfl), (by first | exact p1 | exact fun _ => rfl), (by first | exact p2 | exact fun _ => rfl), (by first | exact p3 | exact fun _ => rfl), (by first | exact p4 | exact fun _ => rfl), (by first | exact p5 | exact fun _ => rfl), (by first | exact p6 | exact fun _ => rfl), (by first | exact p7 | exact fun _ => rfl), (by first | exact p8 | exact fun _ => rfl), (by first | exact p9 | exact fun _ => rfl), (fun _ => rfl), (by simp [h13]), (by simp [h14]), (by simpa using q2), (by simpa using q3), (by simpa using q4), (by simpa using q5), (by simpa using q7), (by simpa using q8), (by simpa using q9), (by simpa using q10), (by simpa using q11), (by simp [he]), (by simp [h13]), (by simp [h14]), (by simp [h15]), (by simpa [h13, h14, h15] using hS)⟩
    · have h14 : L 14 = false := by cases hh : L 14 with | false => rfl | true => (have hq := q14 hh; simp [hi] at hq)
      have h15 : L 15 = false := by cases hh : L 15 with | false => rfl | true => (have hq := q15 hh; simp [h14] at hq)
      obtain rfl := p12 (by simp [he])
      refine wpOp_step rfl (fun K hK => ?_)
      go_simp
      exact hK _ _ ⟨_, _, _, _, _, _, _, _, _, _, _, _, _, _, _, rfl, (by first | exact p0 | exact fun _ => rfl), (by first | exact p1 | exact fun _ => rfl), (by first | exact p2 | exact fun _ => rfl), (by first | exact p3 | exact fun _ => rfl), (by first | exact p4 | exact fun _ => rfl), (by first | exact p5 | exact fun _ => rfl), (by first | exact p6 | exact fun _ => rfl), (by first | exact p7 | exact fun _ => rfl), (by first | exact p8 | exact fun _ => rfl), (by first | exact p9 | exact fun _ => rfl), (by first | exact p12 | exact fun _ => rfl), (fun _ => rfl), (by simp [h14]), (by simpa using q2), (by simpa using q3), (by simpa using q4), (by simpa using q5), (by simpa using q7), (by simpa using q8), (by simpa using q9), (by simpa using q10), (by simpa using q11), (by simpa using q12), (by simp [he]), (by simp [h14]), (by simp [h15]), (by simpa [h14, h15] using hS)⟩
    · have h15 : L 15 = false := by cases hh : L 15 with | false => rfl | true => (have hq := q15 hh; simp [hi] at hq)
      obtain rfl := p13 (by simp [he])
      refine wpOp_step rfl (fun K hK => ?_)
      go_simp
      exact hK _ _ ⟨_, _, _, _, _, _, _, _, _, _, _, _, _, _, _, rfl, (by first | exact p0 | exact fun _ => rfl), (by first | exact p1 | exact fun _ => rfl), (by first | exact p2 | exact fun _ => rfl), (by first | exact p3 | exact fun _ => rfl), (by first | exact p4 | exact fun _ => rfl), (by first | exact p5 | exact fun _ => rfl), (by first | exact p6 | exact fun _ => rfl), (by first | exact p7 | exact fun _ => rfl), (by first | exact p8 | exact fun _ => rfl), (by first | exact p9 | exact fun _ => rfl), (by first | exact p12 | exact fun _ => rfl), (by first | exact p13 | exact fun _ => rfl), (fun _ => rfl), (by simpa using q2), (by simpa using q3), (by simpa using q4), (by simpa using q5), (by simpa using q7), (by simpa using q8), (by simpa using q9), (by simpa using q10), (by simpa using q11), (by simpa using q12), (by simpa using q13), (by simp [he]), (by simp [h15]), (by simpa [h15] using hS)⟩
    · obtain rfl := p14 (by simp [he])
      have t10 : L 10 = true := by simp [he]
      have t11 : L 11 = true := by simp [he]
      rw [if_neg (by simp [hi]), if_pos t11] at hS
      obtain ⟨A', c', rfl, hc', hS⟩ := hS
      have e0 := hS.cell 0 rfl (k := 2) rfl
      have u0 := hS.froz 0 rfl (k := 2)
      have hN := hS.set 0 rfl (k := 2) (.slice A' (nr + 1) c')
      refine wpOp_step rfl (fun K hK => ?_)
      go_simp
      exact hK _ _ ⟨_, _, _, _, _, _, _, _, _, _, _, _, _, _, _, rfl, (by first | exact p0 | exact fun _ => rfl), (by first | exact p1 | exact fun _ => rfl), (by first | exact p2 | exact fun _ => rfl), (by first | exact p3 | exact fun _ => rfl), (by first | exact p4 | exact fun _ => rfl), (by first | exact p5 | exact fun _ => rfl), (by first | exact p6 | exact fun _ => rfl), (by first | exact p7 | exact fun _ => rfl), (by first | exact p8 | exact fun _ => rfl), (by first | exact p9 | exact fun _ => rfl), (by first | exact p12 | exact fun _ => rfl), (by first | exact p13 | exact fun _ => rfl), (by first | exact p14 | exact fun _ => rfl), (by simpa using q2), (by simpa using q3), (by simpa using q4), (by simpa using q5), (by simpa using q7), (by simpa using q8), (by simpa using q9), (by simpa using q10), (by simpa using q11), (by simpa using q12), (by simpa using q13), (by simpa using q14), (by simp [he]), (by rw [if_pos (by simp)]; exact ⟨A', c', rfl, hc', hN⟩)⟩
  · rintro L ac w' ⟨x64, x65, x66, x67, x68, x69, x70, x71, x72, x73, x74, x75, x76, x77, x78, ha, p0, p1, p2, p3, p4, p5, p6, p7, p8, p9, p12, p13, p14, q2, q3, q4, q5, q7, q8, q9, q10, q11, q12, q13, q14, q15, hS⟩ hall
    have t10 := hall 10 (by decide)
    have t11 := hall 11 (by decide)
    have t15 := hall 15 (by decide)
    rw [if_pos t15] at hS
    obtain ⟨A', c', rfl, hc', hS⟩ := hS
    obtain rfl := p0 (hall 0 (by decide))
    obtain rfl := p1 (hall 1 (by decide))
    obtain rfl := p2 (hall 2 (by decide))
    obtain rfl := p3 (hall 3 (by decide))
    obtain rfl := p4 (hall 4 (by decide))
    obtain rfl := p5 (hall 5 (by decide))
    obtain rfl := p6 (hall 6 (by decide))
    obtain rfl := p7 (hall 7 (by decide))
    obtain rfl := p8 (hall 8 (by decide))
    obtain rfl := p9 (hall 9 (by decide))
    obtain rfl := p12 (hall 12 (by decide))
    obtain rfl := p13 (hall 13 (by decide))
    obtain rfl := p14 (hall 14 (by decide))
    simp only [turn, List.foldl_cons, List.foldl_nil, List.setIfInBounds_toArray, List.set_cons_succ, List.set_cons_zero] at ha
    subst ha
    clear q2 q3 q4 q5 q7 q8 q9 q10 q11 q12 q13 q14 q15  t10 t11 t15
    have H9 := Lib.hid hS
    clear hS
    go_wp2
    refine bodyPost_end (v := .tuple #[]) (by simp [results, Tryz.results20]) rfl ?_
    have K9 : Sep w0 w' (ccI gc (.int .i64 (sz : Int)) (.slice A6 (l.length + 1) c6) (.slice A' (c.rd ++ [yd]).length c') fz s' st' :: ptI A6 (l.length + 1) c6 (bl6 ++ [g]) :: rdI A' (c.rd ++ [yd]).length c' (c.rd ++ [yd]) :: pgI g ⟨yn, yd, yw⟩ :: opI gx 1 np d :: (objs bl6 l ++ (J ++ K))) := by
      have := H9.out
      rw [HM6.out, HBZ.out, HNR.out, HRD.out, HTT.out] at this
      rw [List.length_append]
      simp only [rdI, List.flatMap_append]
      exact this
    rw [HFZ.out] at K9
    skip
    exact ⟨rfl, st_close HBP.out HCP.out K9⟩

set_option maxRecDepth 100000 in
set_option maxHeartbeats 3200000 in
theorem do_read_miss (gc sz np : Nat) (d x : Int) (c : Cs) (l : List Pg) (s' : Nat) (st' : List Int) (w0 w : World) (hs : St w0 w gc sz c) (hc : Ok sz c) (hz : sz ≤ 16) (hU : U sz c.L c.s c.st np false l ⟨np, 0, false⟩ s' st') (hb : c.s < 140737488355328) (hr : c.rd.length ≤ 5864062014806) (hf : c.f < 140737488355328) (hn : np < 16) (hx : st'[np]? = some x) :
    Calls Tryz.prog 20 #[.pointer (some ⟨gc, 0, none⟩), .agg #[.int .i64 1, .int .i64 (np : Int), .int .i64 d]] w (fun e w' => e = .returned (.tuple #[]) ∧ St w0 w' gc sz ⟨l ++ [⟨np, x, false⟩], c.rd ++ [x], c.f + 1, s', st'⟩) := by
  obtain ⟨A, cc, Ar, cr, bl, J, hbl, hcc, H0⟩ := hs
  obtain ⟨ti, HTI⟩ : ∃ ti, Hid (Tryz.prog.info? 3 = some ti ∧ ti.zero = some (.int .i64 0) ∧ ti.size = 1 ∧ ti.bytes = 8) := by
    obtain ⟨ti, hti, t0, t1, t2⟩ := info_parts cint_info
    exact ⟨ti, Lib.hid ⟨hti, t0, t1, t2⟩⟩
  have HX := Lib.hid hx
  clear hx
  have hk := hc.len
  have hU2 : ∀ W, Sep w0 W (ccI gc (.int .i64 (sz : Int)) (.slice A c.L.length cc) (.slice Ar c.rd.length cr) c.f c.s c.st :: ptI A c.L.length cc bl :: rdI Ar c.rd.length cr c.rd :: (objs bl c.L ++ (J ++ [opI w.heap.size 1 np d]))) → Calls Tryz.prog 42 #[.pointer (some ⟨gc, 0, none⟩), .int .i64 (np : Int)] W (UsePost w0 gc sz (.slice Ar c.rd.length cr) c.f (rdI Ar c.rd.length cr c.rd) (J ++ [opI w.heap.size 1 np d]) false l ⟨np, 0, false⟩ s' st') := fun W H => use_u (n := 0) hU H hbl (by omega) hcc hc.low hc.nd hc.st hb
  have HU := Lib.hid hU2
  have H0' := Lib.hid H0
  clear hU2 H0 hc hU hk
  go_enter Tryz.func20, Tryz.ntmps20
  go_upto_region 1 with (fail)
  have HN0 := H0'.out.new 33 [.int .i64 1, .int .i64 np, .int .i64 d]
  have H1 : Hid (Sep w0 (w.alloc (.cells #[.int .i64 1, .int .i64 (np : Int), .int .i64 d] 33)) (ccI gc (.int .i64 (sz : Int)) (.slice A c.L.length cc) (.slice Ar c.rd.length cr) c.f c.s c.st :: ptI A c.L.length cc bl :: rdI Ar c.rd.length cr c.rd :: (objs bl c.L ++ (J ++ [opI w.heap.size 1 np d])))) := Lib.hid (by rw [← List.append_assoc]; exact HN0)
  have f0 := (Blk.new w 33 [.int .i64 1, .int .i64 (np : Int), .int .i64 d]).cell (k := 0) rfl
  have f1 := (Blk.new w 33 [.int .i64 1, .int .i64 (np : Int), .int .i64 d]).cell (k := 1) rfl
  have cU := Lib.hid (HU.out _ H1.out)
  clear H0' HN0 HU H1
  generalize w.alloc (.cells #[.int .i64 1, .int .i64 (np : Int), .int .i64 d] 33) = w1 at f0 f1 cU ⊢
  generalize w.heap.size = gx at f0 f1 cU ⊢
  go_wp2_with fail
  refine cU.out.mono ?_; rintro en w3 ⟨A6, c6, bl6, g, K, rfl, hbp, hcp, H3'⟩
  have H3 := Lib.hid (use_front hbp H3')
  have HBP := Lib.hid hbp
  have HCP := Lib.hid hcp
  clear H3' hbp hcp cU f0 f1
  have f0 := H3.out.cell 4 rfl (k := 0) rfl
  have f1 := H3.out.cell 4 rfl (k := 1) rfl
  have m0 : (0 : Int) ≤ (np : Int) := by omega
  have m1 : (np : Int) < 16 := by omega
  go_upto_region 11 with (fail)
  clear f0 f1
  have f1 := fun z : LaterOf w3 => z.cell (H3.out.cell 4 rfl (k := 1) rfl)
  have q0 := fun z : LaterOf w3 => z.cell (H3.out.cell 0 rfl (cc_st HX.out))
  (refine wp_region_tail 11 (by kernel_rfl) (by kernel_rfl) ?_; simp only [List.take_succ_cons, List.take_zero, List.drop_succ_cons, List.drop_zero]; repeat (go_big_quiet_step (fail)))
  clear f1 q0
  refine wpQuiet_nil ?_; intro xw hw'; obtain ⟨xq, hw''⟩ := hw'; obtain ⟨xw0, xh⟩ := xq; change xw = xw0 at hw''; subst hw''
  have H4 := Lib.hid (H3.out.later xh)
  clear H3 xh
  have e1 := H4.out.cell 3 rfl (k := 1) rfl
  have u1 := H4.out.froz 3 rfl (k := 1)
  have H5 := Lib.hid (H4.out.set 3 rfl (k := 1) (.int .i64 x))
  clear H4
  go_upto_region 12 with (fail)
  clear e1 u1
  generalize xw.setCell ⟨g, 1, none⟩ (.int .i64 x) = w5 at H5 ⊢
  have e1 := H5.out.cell 0 rfl (k := 3) rfl
  have u1 := H5.out.froz 0 rfl (k := 3)
  obtain ⟨fz, HFZ⟩ : ∃ z, Hid (z = c.f + 1) := ⟨_, Lib.hid rfl⟩
  have k1 : (c.f : Int) + 1 = (fz : Int) := by have := HFZ.out; omega
  have k2 : (0 : Int) ≤ (c.f : Int) := by omega
  have k3 : (fz : Int) < 9223372036854775807 := by have := HFZ.out; omega
  have H6 := Lib.hid (H5.out.set 0 rfl (k := 3) (.int .i64 (fz : Int)))
  clear H5
  go_upto_region 13 with (fail)
  clear e1 u1 k1 k2 k3
  generalize w5.setCell ⟨gc, 3, none⟩ (.int .i64 (fz : Int)) = wa at H6 ⊢
  obtain ⟨yn, yd, yw, HY⟩ : ∃ (yn : Nat) (yd : Int) (yw : Bool), Hid (yn = np ∧ yd = x ∧ yw = false) := ⟨_, _, _, Lib.hid ⟨rfl, rfl, rfl⟩⟩
  have HA : Hid (Sep w0 wa (ccI gc (.int .i64 (sz : Int)) (.slice A6 (l.length + 1) c6) (.slice Ar c.rd.length cr) fz s' st' :: ptI A6 (l.length + 1) c6 (bl6 ++ [g]) :: rdI Ar c.rd.length cr c.rd :: pgI g ⟨yn, yd, yw⟩ :: opI gx 1 np d :: (objs bl6 l ++ (J ++ K)))) := Lib.hid (by
    rw [HY.out.1, HY.out.2.1, HY.out.2.2]
    exact H6.out)
  clear H6 HX m0 m1
  obtain ⟨m6, HM6⟩ : ∃ m, Hid (m = l.length + 1) := ⟨_, Lib.hid rfl⟩
  obtain ⟨bz, HBZ⟩ : ∃ z, Hid (z = bl6 ++ [g]) := ⟨_, Lib.hid rfl⟩
  obtain ⟨nr, HNR⟩ : ∃ m, Hid (m = c.rd.length) := ⟨_, Lib.hid rfl⟩
  obtain ⟨rd, HRD⟩ : ∃ z, Hid (z = c.rd) := ⟨_, Lib.hid rfl⟩
  obtain ⟨TT, HTT⟩ : ∃ z, Hid (z = opI gx 1 np d :: (objs bl6 l ++ (J ++ K))) := ⟨_, Lib.hid rfl⟩
  have hnr : nr ≤ 5864062014806 := by rw [HNR.out]; exact hr
  have HB : Hid (Sep w0 wa (ccI gc (.int .i64 (sz : Int)) (.slice A6 m6 c6) (.slice Ar nr cr) fz s' st' :: ptI A6 m6 c6 bz :: .row 3 1 (.slice Ar nr cr) nr (rd.flatMap icell) :: pgI g ⟨yn, yd, yw⟩ :: TT)) := Lib.hid (by rw [HM6.out, HBZ.out, HNR.out, HRD.out, HTT.out]; exact HA.out)
  clear HA
  refine wp_region_inv0 (fun ac0 L ac w' => ∃ x64 x65 x66 x67 x68 x69 x70 x71 x72 x73 x74 x75 x76 x77 x78, ac = turn ac0 [(64, x64), (65, x65), (66, x66), (67, x67), (68, x68), (69, x69), (70, x70), (71, x71), (72, x72), (73, x73), (74, x74), (75, x75), (76, x76), (77, x77), (78, x78)] ∧ (L 0 = true → x64 = .pointer (some ⟨gc, 0, none⟩)) ∧ (L 1 = true → x65 = .pointer (some ⟨gc, 0, none⟩)) ∧ (L 2 = true → x66 = .pointer (some ⟨gc, 0, none⟩)) ∧ (L 3 = true → x67 = .pointer (some ⟨gc, 2, none⟩)) ∧ (L 4 = true → x68 = .pointer (some ⟨gc, 2, none⟩)) ∧ (L 5 = true → x69 = .slice Ar nr cr) ∧ (L 6 = true → x70 = .pointer (some ⟨g, 0, none⟩)) ∧ (L 7 = true → x71 = .pointer (some ⟨g, 0, none⟩)) ∧ (L 8 = true → x72 = .pointer (some ⟨g, 1, none⟩)) ∧ (L 9 = true → x73 = .int .i64 yd) ∧ (L 12 = true → x76 = .pointer (some ⟨gc, 0, none⟩)) ∧ (L 13 = true → x77 = .pointer (some ⟨gc, 2, none⟩)) ∧ (L 14 = true → x78 = .pointer (some ⟨gc, 2, none⟩)) ∧ (L 2 = true → L 1 = true) ∧ (L 3 = true → L 2 = true) ∧ (L 4 = true → L 3 = true) ∧ (L 5 = true → L 4 = true) ∧ (L 7 = true → L 6 = true) ∧ (L 8 = true → L 7 = true) ∧ (L 9 = true → L 8 = true) ∧ (L 10 = true → L 9 = true) ∧ (L 11 = true → L 5 = true ∧ L 10 = true) ∧ (L 12 = true → L 0 = true ∧ L 1 = true ∧ L 2 = true ∧ L 3 = true ∧ L 4 = true ∧ L 5 = true ∧ L 6 = true ∧ L 7 = true ∧ L 8 = true ∧ L 9 = true ∧ L 10 = true ∧ L 11 = true) ∧ (L 13 = true → L 0 = true ∧ L 1 = true ∧ L 2 = true ∧ L 3 = true ∧ L 4 = true ∧ L 5 = true ∧ L 6 = true ∧ L 7 = true ∧ L 8 = true ∧ L 9 = true ∧ L 10 = true ∧ L 11 = true ∧ L 12 = true) ∧ (L 14 = true → L 0 = true ∧ L 1 = true ∧ L 2 = true ∧ L 3 = true ∧ L 4 = true ∧ L 5 = true ∧ L 6 = true ∧ L 7 = true ∧ L 8 = true ∧ L 9 = true ∧ L 10 = true ∧ L 11 = true ∧ L 13 = true) ∧ (L 15 = true → L 0 = true ∧ L 1 = true ∧ L 2 = true ∧ L 3 = true ∧ L 4 = true ∧ L 5 = true ∧ L 6 = true ∧ L 7 = true ∧ L 8 = true ∧ L 9 = true ∧ L 10 = true ∧ L 11 = true ∧ L 14 = true) ∧ (if L 15 = true then (∃ A' c', x75 = .slice A' (nr + 1) c' ∧ nr + 1 ≤ c' ∧ Sep w0 w' (ccI gc (.int .i64 (sz : Int)) (.slice A6 m6 c6) (.slice A' (nr + 1) c') fz s' st' :: ptI A6 m6 c6 bz :: .row 3 1 (.slice A' (nr + 1) c') (nr + 1) (rd.flatMap icell ++ [.int .i64 yd]) :: pgI g ⟨yn, yd, yw⟩ :: TT)) else (if L 11 = true then (∃ A' c', x75 = .slice A' (nr + 1) c' ∧ nr + 1 ≤ c' ∧ Sep w0 w' (ccI gc (.int .i64 (sz : Int)) (.slice A6 m6 c6) (.slice Ar nr cr) fz s' st' :: ptI A6 m6 c6 bz :: .row 3 1 (.slice A' (nr + 1) c') (nr + 1) (rd.flatMap icell ++ [.int .i64 yd]) :: pgI g ⟨yn, yd, yw⟩ :: TT)) else (if L 10 = true then (∃ gv B, x74 = .slice (some ⟨gv, 0, none⟩) 1 1 ∧ Rd w' B 1 (some ⟨gv, 0, none⟩) 1 [.int .i64 yd] ∧ Sep w0 w' (ccI gc (.int .i64 (sz : Int)) (.slice A6 m6 c6) (.slice Ar nr cr) fz s' st' :: ptI A6 m6 c6 bz :: .row 3 1 (.slice Ar nr cr) nr (rd.flatMap icell) :: pgI g ⟨yn, yd, yw⟩ :: TT)) else Sep w0 w' (ccI gc (.int .i64 (sz : Int)) (.slice A6 m6 c6) (.slice Ar nr cr) fz s' st' :: ptI A6 m6 c6 bz :: .row 3 1 (.slice Ar nr cr) nr (rd.flatMap icell) :: pgI g ⟨yn, yd, yw⟩ :: TT))))) rfl (by kernel_rfl) ?_ ?_ ?_
  · simp only [turn, List.foldl_cons, List.foldl_nil, List.setIfInBounds_toArray, List.set_cons_succ, List.set_cons_zero]
    exact ⟨_, _, _, _, _, _, _, _, _, _, _, _, _, _, _, rfl, (fun h => absurd h (by decide)), (fun h => absurd h (by decide)), (fun h => absurd h (by decide)), (fun h => absurd h (by decide)), (fun h => absurd h (by decide)), (fun h => absurd h (by decide)), (fun h => absurd h (by decide)), (fun h => absurd h (by decide)), (fun h => absurd h (by decide)), (fun h => absurd h (by decide)), (fun h => absurd h (by decide)), (fun h => absurd h (by decide)), (fun h => absurd h (by decide)), (fun h => absurd h (by decide)), (fun h => absurd h (by decide)), (fun h => absurd h (by decide)), (fun h => absurd h (by decide)), (fun h => absurd h (by decide)), (fun h => absurd h (by decide)), (fun h => absurd h (by decide)), (fun h => absurd h (by decide)), (fun h => absurd h (by decide)), (fun h => absurd h (by decide)), (fun h => absurd h (by decide)), (fun h => absurd h (by decide)), (fun h => absurd h (by decide)), by simpa using HB.out.drew⟩
  · rintro L ac w' i o ⟨x64, x65, x66, x67, x68, x69, x70, x71, x72, x73, x74, x75, x76, x77, x78, ha, p0, p1, p2, p3, p4, p5, p6, p7, p8, p9, p12, p13, p14, q2, q3, q4, q5, q7, q8, q9, q10, q11, q12, q13, q14, q15, hS⟩ ho hi he
    simp only [turn, List.foldl_cons, List.foldl_nil, List.setIfInBounds_toArray, List.set_cons_succ, List.set_cons_zero] at ha ⊢
    subst ha
    rcases i with _|_|_|_|_|_|_|_|_|_|_|_|_|_|_|_|i
    all_goals cases ho
    all_goals simp [Region.binds] at he
    · have h12 : L 12 = false := by cases hh : L 12 with | false => rfl | true => (have hq := q12 hh; simp [hi] at hq)
      have h13 : L 13 = false := by cases hh : L 13 with | false => rfl | true => (have hq := q13 hh; simp [hi] at hq)
      have h14 : L 14 = false := by cases hh : L 14 with | false => rfl | true => (have hq := q14 hh; simp [hi] at hq)
      have h15 : L 15 = false := by cases hh : L 15 with | false => rfl | true => (have hq := q15 hh; simp [hi] at hq)
      refine wpOp_step rfl (fun K hK => ?_)
      go_simp
      exact hK _ _ ⟨_, _, _, _, _, _, _, _, _, _, _, _, _, _, _, rfl, (fun _ => rfl), (by first | exact p1 | exact fun _ => rfl), (by first | exact p2 | exact fun _ => rfl), (by first | exact p3 | exact fun _ => rfl), (by first | exact p4 | exact fun _ => rfl), (by first | exact p5 | exact fun _ => rfl), (by first | exact p6 | exact fun _ => rfl), (by first | exact p7 | exact fun _ => rfl), (by first | exact p8 | exact fun _ => rfl), (by first | exact p9 | exact fun _ => rfl), (by simp [h12]), (by simp [h13]), (by simp [h14]), (by simpa using q2), (by simpa using q3), (by simpa using q4), (by simpa using q5), (by simpa using q7), (by simpa using q8), (by simpa using q9), (by simpa using q10), (by simpa using q11), (by simp [h12]), (by simp [h13]), (by simp [h14]), (by simp [h15]), (by simpa [h12, h13, h14, h15] using hS)⟩
    · have h2 : L 2 = false := by cases hh : L 2 with | false => rfl | true => (have hq := q2 hh; simp [hi] at hq)
      have h12 : L 12 = false := by cases hh : L 12 with | false => rfl | true => (have hq := q12 hh; simp [hi] at hq)
      have h13 : L 13 = false := by cases hh : L 13 with | false => rfl | true => (have hq := q13 hh; simp [hi] at hq)
      have h14 : L 14 = false := by cases hh : L 14 with | false => rfl | true => (have hq := q14 hh; simp [hi] at hq)
      have h15 : L 15 = false := by cases hh : L 15 with | false => rfl | true => (have hq := q15 hh; simp [hi] at hq)
      have h3 : L 3 = false := by cases hh : L 3 with | false => rfl | true => (have hq := q3 hh; simp [h2] at hq)
      have h4 : L 4 = false := by cases hh : L 4 with | false => rfl | true => (have hq := q4 hh; simp [h3] at hq)
      have h5 : L 5 = false := by cases hh : L 5 with | false => rfl | true => (have hq := q5 hh; simp [h4] at hq)
      have h11 : L 11 = false := by cases hh : L 11 with | false => rfl | true => (have hq := q11 hh; simp [h5] at hq)
      refine wpOp_step rfl (fun K hK => ?_)
      go_simp
      exact hK _ _ ⟨_, _, _, _, _, _, _, _, _, _, _, _, _, _, _, rfl, (by first | exact p0 | exact fun _ => rfl), (fun _ => rfl), (by simp [h2]), (by simp [h3]), (by simp [h4]), (by simp [h5]), (by first | exact p6 | exact fun _ => rfl), (by first | exact p7 | exact fun _ => rfl), (by first | exact p8 | exact fun _ => rfl), (by first | exact p9 | exact fun _ => rfl), (by simp [h12]), (by simp [h13]), (by simp [h14]), (by simp [h2]), (by simp [h3]), (by simp [h4]), (by simp [h5]), (by simpa using q7), (by simpa using q8), (by simpa using q9), (by simpa using q10), (by simp [h11]), (by simp [h12]), (by simp [h13]), (by simp [h14]), (by simp [h15]), (by simpa [h2, h12, h13, h14, h15, h3, h4, h5, h11] using hS)⟩
    · have h3 : L 3 = false := by cases hh : L 3 with | false => rfl | true => (have hq := q3 hh; simp [hi] at hq)
      have h12 : L 12 = false := by cases hh : L 12 with | false => rfl | true => (have hq := q12 hh; simp [hi] at hq)
      have h13 : L 13 = false := by cases hh : L 13 with | false => rfl | true => (have hq := q13 hh; simp [hi] at hq)
      have h14 : L 14 = false := by cases hh : L 14 with | false => rfl | true => (have hq := q14 hh; simp [hi] at hq)
      have h15 : L 15 = false := by cases hh : L 15 with | false => rfl | true => (have hq := q15 hh; simp [hi] at hq)
      have h4 : L 4 = false := by cases hh : L 4 with | false => rfl | true => (have hq := q4 hh; simp [h3] at hq)
      have h5 : L 5 = false := by cases hh : L 5 with | false => rfl | true => (have hq := q5 hh; simp [h4] at hq)
      have h11 : L 11 = false := by cases hh : L 11 with | false => rfl | true => (have hq := q11 hh; simp [h5] at hq)
      obtain rfl := p1 (by simp [he])
      refine wpOp_step rfl (fun K hK => ?_)
      go_simp
      exact hK _ _ ⟨_, _, _, _, _, _, _, _, _, _, _, _, _, _, _, rfl, (by first | exact p0 | exact fun _ => rfl), (by first | exact p1 | exact fun _ => rfl), (fun _ => rfl), (by simp [h3]), (by simp [h4]), (by simp [h5]), (by first | exact p6 | exact fun _ => rfl), (by first | exact p7 | exact fun _ => rfl), (by first | exact p8 | exact fun _ => rfl), (by first | exact p9 | exact fun _ => rfl), (by simp [h12]), (by simp [h13]), (by simp [h14]), (by simp [he]), (by simp [h3]), (by simp [h4]), (by simp [h5]), (by simpa using q7), (by simpa using q8), (by simpa using q9), (by simpa using q10), (by simp [h11]), (by simp [h12]), (by simp [h13]), (by simp [h14]), (by simp [h15]), (by simpa [h3, h12, h13, h14, h15, h4, h5, h11] using hS)⟩
    · have h4 : L 4 = false := by cases hh : L 4 with | false => rfl | true => (have hq := q4 hh; simp [hi] at hq)
      have h12 : L 12 = false := by cases hh : L 12 with | false => rfl | true => (have hq := q12 hh; simp [hi] at hq)
      have h13 : L 13 = false := by cases hh : L 13 with | false => rfl | true => (have hq := q13 hh; simp [hi] at hq)
      have h14 : L 14 = false := by cases hh : L 14 with | false => rfl | true => (have hq := q14 hh; simp [hi] at hq)
      have h15 : L 15 = false := by cases hh : L 15 with | false => rfl | true => (have hq := q15 hh; simp [hi] at hq)
      have h5 : L 5 = false := by cases hh : L 5 with | false => rfl | true => (have hq := q5 hh; simp [h4] at hq)
      have h11 : L 11 = false := by cases hh : L 11 with | false => rfl | true => (have hq := q11 hh; simp [h5] at hq)
      obtain rfl := p2 (by simp [he])
      refine wpOp_step rfl (fun K hK => ?_)
      go_simp
      exact hK _ _ ⟨_, _, _, _, _, _, _, _, _, _, _, _, _, _, _, rfl, (by first | exact p0 | exact fun _ => rfl), (by first | exact p1 | exact fun _ => rfl), (by first | exact p2 | exact fun _ => rfl), (fun _ => rfl), (by simp [h4]), (by simp [h5]), (by first | exact p6 | exact fun _ => rfl), (by first | exact p7 | exact fun _ => rfl), (by first | exact p8 | exact fun _ => rfl), (by first | exact p9 | exact fun _ => rfl), (by simp [h12]), (by simp [h13]), (by simp [h14]), (by simpa using q2), (by simp [he]), (by simp [h4]), (by simp [h5]), (by simpa using q7), (by simpa using q8), (by simpa using q9), (by simpa using q10), (by simp [h11]), (by simp [h12]), (by simp [h13]), (by simp [h14]), (by simp [h15]), (by simpa [h4, h12, h13, h14, h15, h5, h11] using hS)⟩
    · have h5 : L 5 = false := by cases hh : L 5 with | false => rfl | true => (have hq := q5 hh; simp [hi] at hq)
      have h12 : L 12 = false := by cases hh : L 12 with | false => rfl | true => (have hq := q12 hh; simp [hi] at hq)
      have h13 : L 13 = false := by cases hh : L 13 with | false => rfl | true => (have hq := q13 hh; simp [hi] at hq)
      have h14 : L 14 = false := by cases hh : L 14 with | false => rfl | true => (have hq := q14 hh; simp [hi] at hq)
      have h15 : L 15 = false := by cases hh : L 15 with | false => rfl | true => (have hq := q15 hh; simp [hi] at hq)
      have h11 : L 11 = false := by cases hh : L 11 with | false => rfl | true => (have hq := q11 hh; simp [h5] at hq)
      obtain rfl := p3 (by simp [he])
      refine wpOp_step rfl (fun K hK => ?_)
      go_simp
      exact hK _ _ ⟨_, _, _, _, _, _, _, _, _, _, _, _, _, _, _, rfl, (by first | exact p0 | exact fun _ => rfl), (by first | exact p1 | exact fun _ => rfl), (by first | exact p2 | exact fun _ => rfl), (by first | exact p3 | exact fun _ => rfl), (fun _ => rfl), (by simp [h5]), (by first | exact p6 | exact fun _ => rfl), (by first | exact p7 | exact fun _ => rfl), (by first | exact p8 | exact fun _ => rfl), (by first | exact p9 | exact fun _ => rfl), (by simp [h12]), (by simp [h13]), (by simp [h14]), (by simpa using q2), (by simpa using q3), (by simp [he]), (by simp [h5]), (by simpa using q7), (by simpa using q8), (by simpa using q9), (by simpa using q10), (by simp [h11]), (by simp [h12]), (by simp [h13]), (by simp [h14]), (by simp [h15]), (by simpa [h5, h12, h13, h14, h15, h11] using hS)⟩
    · have h11 : L 11 = false := by cases hh : L 11 with | false => rfl | true => (have hq := q11 hh; simp [hi] at hq)
      have h12 : L 12 = false := by cases hh : L 12 with | false => rfl | true => (have hq := q12 hh; simp [hi] at hq)
      have h13 : L 13 = false := by cases hh : L 13 with | false => rfl | true => (have hq := q13 hh; simp [hi] at hq)
      have h14 : L 14 = false := by cases hh : L 14 with | false => rfl | true => (have hq := q14 hh; simp [hi] at hq)
      have h15 : L 15 = false := by cases hh : L 15 with | false => rfl | true => (have hq := q15 hh; simp [hi] at hq)
      obtain rfl := p4 (by simp [he])
      have f0 : w'.cell? ⟨gc, 2, none⟩ = some (.slice Ar nr cr) := by
        rw [if_neg (by simp [h15]), if_neg (by simp [h11])] at hS
        split at hS
        · obtain ⟨gv, _, _, _, S⟩ := hS
          exact S.cell 0 rfl (k := 2) rfl
        · exact hS.cell 0 rfl (k := 2) rfl
      refine wpOp_step rfl (fun K hK => ?_)
      go_simp
      exact hK _ _ ⟨_, _, _, _, _, _, _, _, _, _, _, _, _, _, _, rfl, (by first | exact p0 | exact fun _ => rfl), (by first | exact p1 | exact fun _ => rfl), (by first | exact p2 | exact fun _ => rfl), (by first | exact p3 | exact fun _ => rfl), (by first | exact p4 | exact fun _ => rfl), (fun _ => rfl), (by first | exact p6 | exact fun _ => rfl), (by first | exact p7 | exact fun _ => rfl), (by first | exact p8 | exact fun _ => rfl), (by first | exact p9 | exact fun _ => rfl), (by simp [h12]), (by simp [h13]), (by simp [h14]), (by simpa using q2), (by simpa using q3), (by simpa using q4), (by simp [he]), (by simpa using q7), (by simpa using q8), (by simpa using q9), (by simpa using q10), (by simp [h11]), (by simp [h12]), (by simp [h13]), (by simp [h14]), (by simp [h15]), (by simpa [h11, h12, h13, h14, h15] using hS)⟩
    · have h7 : L 7 = false := by cases hh : L 7 with | false => rfl | true => (have hq := q7 hh; simp [hi] at hq)
      have h12 : L 12 = false := by cases hh : L 12 with | false => rfl | true => (have hq := q12 hh; simp [hi] at hq)
      have h13 : L 13 = false := by cases hh : L 13 with | false => rfl | true => (have hq := q13 hh; simp [hi] at hq)
      have h14 : L 14 = false := by cases hh : L 14 with | false => rfl | true => (have hq := q14 hh; simp [hi] at hq)
      have h15 : L 15 = false := by cases hh : L 15 with | false => rfl | true => (have hq := q15 hh; simp [hi] at hq)
      have h8 : L 8 = false := by cases hh : L 8 with | false => rfl | true => (have hq := q8 hh; simp [h7] at hq)
      have h9 : L 9 = false := by cases hh : L 9 with | false => rfl | true => (have hq := q9 hh; simp [h8] at hq)
      have h10 : L 10 = false := by cases hh : L 10 with | false => rfl | true => (have hq := q10 hh; simp [h9] at hq)
      have h11 : L 11 = false := by cases hh : L 11 with | false => rfl | true => (have hq := q11 hh; simp [h10] at hq)
      refine wpOp_step rfl (fun K hK => ?_)
      go_simp
      exact hK _ _ ⟨_, _, _, _, _, _, _, _, _, _, _, _, _, _, _, rfl, (by first | exact p0 | exact fun _ => rfl), (by first | exact p1 | exact fun _ => rfl), (by first | exact p2 | exact fun _ => rfl), (by first | exact p3 | exact fun _ => rfl), (by first | exact p4 | exact fun _ => rfl), (by first | exact p5 | exact fun _ => rfl), (fun _ => rfl), (by simp [h7]), (by simp [h8]), (by simp [h9]), (by simp [h12]), (by simp [h13]), (by simp [h14]), (by simpa using q2), (by simpa using q3), (by simpa using q4), (by simpa using q5), (by simp [h7]), (by simp [h8]), (by simp [h9]), (by simp [h10]), (by simp [h11]), (by simp [h12]), (by simp [h13]), (by simp [h14]), (by simp [h15]), (by simpa [h7, h12, h13, h14, h15, h8, h9, h10, h11] using hS)⟩
    · have h8 : L 8 = false := by cases hh : L 8 with | false => rfl | true => (have hq := q8 hh; simp [hi] at hq)
      have h12 : L 12 = false := by cases hh : L 12 with | false => rfl | true => (have hq := q12 hh; simp [hi] at hq)
      have h13 : L 13 = false := by cases hh : L 13 with | false => rfl | true => (have hq := q13 hh; simp [hi] at hq)
      have h14 : L 14 = false := by cases hh : L 14 with | false => rfl | true => (have hq := q14 hh; simp [hi] at hq)
      have h15 : L 15 = false := by cases hh : L 15 with | false => rfl | true => (have hq := q15 hh; simp [hi] at hq)
      have h9 : L 9 = false := by cases hh : L 9 with | false => rfl | true => (have hq := q9 hh; simp [h8] at hq)
      have h10 : L 10 = false := by cases hh : L 10 with | false => rfl | true => (have hq := q10 hh; simp [h9] at hq)
      have h11 : L 11 = false := by cases hh : L 11 with | false => rfl | true => (have hq := q11 hh; simp [h10] at hq)
      obtain rfl := p6 (by simp [he])
      refine wpOp_step rfl (fun K hK => ?_)
      go_simp
      exact hK _ _ ⟨_, _, _, _, _, _, _, _, _, _, _, _, _, _, _, rfl, (by first | exact p0 | exact fun _ => rfl), (by first | exact p1 | exact fun _ => rfl), (by first | exact p2 | exact fun _ => rfl), (by first | exact p3 | exact fun _ => rfl), (by first | exact p4 | exact fun _ => rfl), (by first | exact p5 | exact fun _ => rfl), (by first | exact p6 | exact fun _ => rfl), (fun _ => rfl), (by simp [h8]), (by simp [h9]), (by simp [h12]), (by simp [h13]), (by simp [h14]), (by simpa using q2), (by simpa using q3), (by simpa using q4), (by simpa using q5), (by simp [he]), (by simp [h8]), (by simp [h9]), (by simp [h10]), (by simp [h11]), (by simp [h12]), (by simp [h13]), (by simp [h14]), (by simp [h15]), (by simpa [h8, h12, h13, h14, h15, h9, h10, h11] using hS)⟩
    · have h9 : L 9 = false := by cases hh : L 9 with | false => rfl | true => (have hq := q9 hh; simp [hi] at hq)
      have h12 : L 12 = false := by cases hh : L 12 with | false => rfl | true => (have hq := q12 hh; simp [hi] at hq)
      have h13 : L 13 = false := by cases hh : L 13 with | false => rfl | true => (have hq := q13 hh; simp [hi] at hq)
      have h14 : L 14 = false := by cases hh : L 14 with | false => rfl | true => (have hq := q14 hh; simp [hi] at hq)
      have h15 : L 15 = false := by cases hh : L 15 with | false => rfl | true => (have hq := q15 hh; simp [hi] at hq)
      have h10 : L 10 = false := by cases hh : L 10 with | false => rfl | true => (have hq := q10 hh; simp [h9] at hq)
      have h11 : L 11 = false := by cases hh : L 11 with | false => rfl | true => (have hq := q11 hh; simp [h10] at hq)
      obtain rfl := p7 (by simp [he])
      refine wpOp_step rfl (fun K hK => ?_)
      go_simp
      exact hK _ _ ⟨_, _, _, _, _, _, _, _, _, _, _, _, _, _, _, rfl, (by first | exact p0 | exact fun _ => rfl), (by first | exact p1 | exact fun _ => rfl), (by first | exact p2 | exact fun _ => rfl), (by first | exact p3 | exact fun _ => rfl), (by first | exact p4 | exact fun _ => rfl), (by first | exact p5 | exact fun _ => rfl), (by first | exact p6 | exact fun _ => rfl), (by first | exact p7 | exact fun _ => rfl), (fun _ => rfl), (by simp [h9]), (by simp [h12]), (by simp [h13]), (by simp [h14]), (by simpa using q2), (by simpa using q3), (by simpa using q4), (by simpa using q5), (by simpa using q7), (by simp [he]), (by simp [h9]), (by simp [h10]), (by simp [h11]), (by simp [h12]), (by simp [h13]), (by simp [h14]), (by simp [h15]), (by simpa [h9, h12, h13, h14, h15, h10, h11] using hS)⟩
    · have h10 : L 10 = false := by cases hh : L 10 with | false => rfl | true => (have hq := q10 hh; simp [hi] at hq)
      have h12 : L 12 = false := by cases hh : L 12 with | false => rfl | true => (have hq := q12 hh; simp [hi] at hq)
      have h13 : L 13 = false := by cases hh : L 13 with | false => rfl | true => (have hq := q13 hh; simp [hi] at hq)
      have h14 : L 14 = false := by cases hh : L 14 with | false => rfl | true => (have hq := q14 hh; simp [hi] at hq)
      have h15 : L 15 = false := by cases hh : L 15 with | false => rfl | true => (have hq := q15 hh; simp [hi] at hq)
      have h11 : L 11 = false := by cases hh : L 11 with | false => rfl | true => (have hq := q11 hh; simp [h10] at hq)
      obtain rfl := p8 (by simp [he])
      have f0 : w'.cell? ⟨g, 1, none⟩ = some (.int .i64 yd) := by
        rw [if_neg (by simp [h15]), if_neg (by simp [h11]), if_neg (by simp [h10])] at hS
        exact hS.cell 3 rfl (k := 1) rfl
      refine wpOp_step rfl (fun K hK => ?_)
      go_simp
      exact hK _ _ ⟨_, _, _, _, _, _, _, _, _, _, _, _, _, _, _, rfl, (by first | exact p0 | exact fun _ => rfl), (by first | exact p1 | exact fun _ => rfl), (by first | exact p2 | exact fun _ => rfl), (by first | exact p3 | exact fun _ => rfl), (by first | exact p4 | exact fun _ => rfl), (by first | exact p5 | exact fun _ => rfl), (by first | exact p6 | exact fun _ => rfl), (by first | exact p7 | exact fun _ => rfl), (by first | exact p8 | exact fun _ => rfl), (fun _ => rfl), (by simp [h12]), (by simp [h13]), (by simp [h14]), (by simpa using q2), (by simpa using q3), (by simpa using q4), (by simpa using q5), (by simpa using q7), (by simpa using q8), (by simp [he]), (by simp [h10]), (by simp [h11]), (by simp [h12]), (by simp [h13]), (by simp [h14]), (by simp [h15]), (by simpa [h10, h12, h13, h14, h15, h11] using hS)⟩
    · have h11 : L 11 = false := by cases hh : L 11 with | false => rfl | true => (have hq := q11 hh; simp [hi] at hq)
      have h12 : L 12 = false := by cases hh : L 12 with | false => rfl | true => (have hq := q12 hh; simp [hi] at hq)
      have h13 : L 13 = false := by cases hh : L 13 with | false => rfl | true => (have hq := q13 hh; simp [hi] at hq)
      have h14 : L 14 = false := by cases hh : L 14 with | false => rfl | true => (have hq := q14 hh; simp [hi] at hq)
      have h15 : L 15 = false := by cases hh : L 15 with | false => rfl | true => (have hq := q15 hh; simp [hi] at hq)
      obtain rfl := p9 (by simp [he])
      rw [if_neg (by simp [h15]), if_neg (by simp [h11]), if_neg (by simp [hi])] at hS
      have hN := hS.alloc (.cells #[.int .i64 yd] 3)
      have hv0 := Rd.of_own (own_new w' 3 #[.int .i64 yd] 1 1 rfl (by simp [maxLen]) (Nat.le_refl _))
      refine wpOp_step rfl (fun K hK => ?_)
      go_simp
      exact hK _ _ ⟨_, _, _, _, _, _, _, _, _, _, _, _, _, _, _, rfl, (by first | exact p0 | exact fun _ => rfl), (by first | exact p1 | exact fun _ => rfl), (by first | exact p2 | exact fun _ => rfl), (by first | exact p3 | exact fun _ => rfl), (by first | exact p4 | exact fun _ => rfl), (by first | exact p5 | exact fun _ => rfl), (by first | exact p6 | exact fun _ => rfl), (by first | exact p7 | exact fun _ => rfl), (by first | exact p8 | exact fun _ => rfl), (by first | exact p9 | exact fun _ => rfl), (by simp [h12]), (by simp [h13]), (by simp [h14]), (by simpa using q2), (by simpa using q3), (by simpa using q4), (by simpa using q5), (by simpa using q7), (by simpa using q8), (by simpa using q9), (by simp [he]), (by simp [h11]), (by simp [h12]), (by simp [h13]), (by simp [h14]), (by simp [h15]), (by rw [if_neg (by simp [h15]), if_neg (by simp [h11]), if_pos (by simp)]; exact ⟨_, _, rfl, hv0, hN⟩)⟩
    · have h12 : L 12 = false := by cases hh : L 12 with | false => rfl | true => (have hq := q12 hh; simp [hi] at hq)
      have h13 : L 13 = false := by cases hh : L 13 with | false => rfl | true => (have hq := q13 hh; simp [hi] at hq)
      have h14 : L 14 = false := by cases hh : L 14 with | false => rfl | true => (have hq := q14 hh; simp [hi] at hq)
      have h15 : L 15 = false := by cases hh : L 15 with | false => rfl | true => (have hq := q15 hh; simp [hi] at hq)
      obtain rfl := p5 (by simp [he])
      have t10 : L 10 = true := by simp [he]
      rw [if_neg (by simp [h15]), if_neg (by simp [hi]), if_pos t10] at hS
      obtain ⟨gv, B, rfl, hv0, hS⟩ := hS
      refine wpOp_at rfl rfl ?_
      refine oper_append_sep hS 2 (.tmp 69) (.tmp 74) 24 rfl 3 ti (.int .i64 0) 1 8 Tryz.underlying24 HTI.out.1 HTI.out.2.1 HTI.out.2.2.1 HTI.out.2.2.2 rfl (by omega) _ nr _ rfl rfl _ _ 1 1 _ rfl hv0 (by simp [Value.oneCell']) (by simp only [maxLen]; omega) (by omega) ?_
      intro A' c' w5 hc' _ K5
      exact ⟨_, _, _, _, _, _, _, _, _, _, _, _, _, _, _, rfl, (by first | exact p0 | exact fun _ => rfl), (by first | exact p1 | exact fun _ => rfl), (by first | exact p2 | exact fun _ => rfl), (by first | exact p3 | exact fun _ => rfl), (by first | exact p4 | exact fun _ => rfl), (by first | exact p5 | exact fun _ => rfl), (by first | exact p6 | exact fun _ => rfl), (by first | exact p7 | exact fun _ => rfl), (by first | exact p8 | exact fun _ => rfl), (by first | exact p9 | exact fun _ => rfl), (by simp [h12]), (by simp [h13]), (by simp [h14]), (by simpa using q2), (by simpa using q3), (by simpa using q4), (by simpa using q5), (by simpa using q7), (by simpa using q8), (by simpa using q9), (by simpa using q10), (by simp [he]), (by simp [h12]), (by simp [h13]), (by simp [h14]), (by simp [h15]), (by rw [if_neg (by simp [h15]), if_pos (by simp)]; exact ⟨A', c', rfl, hc', K5⟩)⟩
    · have h13 : L 13 = false := by cases hh : L 13 with | false => rfl | true => (have hq := q13 hh; simp [hi] at hq)
      have h14 : L 14 = false := by cases hh : L 14 with | false => rfl | true => (have hq := q14 hh; simp [h13] at hq)
      have h15 : L 15 = false := by cases hh : L 15 with | false => rfl | true => (have hq := q15 hh; simp [h14] at hq)
      obtain rfl := p0 (by simp [he])
      refine wpOp_step rfl (fun K hK => ?_)
      go_simp
      exact hK _ _ ⟨_, _, _, _, _, _, _, _, _, _, _, _, _, _, _, rfl, (by first | exact p0 | exact fun _ => rfl), (by first | exact p1 | exact fun _ => rfl), (by first | exact p2 | exact fun _ => rfl), (by first | exact p3 | exact fun _ => rfl), (by first | exact p4 | exact fun _ => rfl), (by first | exact p5 | exact fun _ => rfl), (by first | exact p6 | exact fun _ => rfl), (by first | exact p7 | exact fun _ => rfl), (by first | exact p8 | exact fun _ => rfl), (by first | exact p9 | exact fun _ => rfl), (fun _ => rfl), (by simp [h13]), (by simp [h14]), (by simpa using q2), (by simpa using q3), (by simpa using q4), (by simpa using q5), (by simpa using q7), (by simpa using q8), (by simpa using q9), (by simpa using q10), (by simpa using q11), (by simp [he]), (by simp [h13]), (by simp [h14]), (by simp [h15]), (by simpa [h13, h14, h15] using hS)⟩
    · have h14 : L 14 = false := by cases hh : L 14 with | false => rfl | true => (have hq := q14 hh; simp [hi] at hq)
      have h15 : L 15 = false := by cases hh : L 15 with | false => rfl | true => (have hq := q15 hh; simp [h14] at hq)
      obtain rfl := p12 (by simp [he])
      refine wpOp_step rfl (fun K hK => ?_)
      go_simp
      exact hK _ _ ⟨_, _, _, _, _, _, _, _, _, _, _, _, _, _, _, rfl, (by first | exact p0 | exact fun _ => rfl), (by first | exact p1 | exact fun _ => rfl), (by first | exact p2 | exact fun _ => rfl), (by first | exact p3 | exact fun _ => rfl), (by first | exact p4 | exact fun _ => rfl), (by first | exact p5 | exact fun _ => rfl), (by first | exact p6 | exact fun _ => rfl), (by first | exact p7 | exact fun _ => rfl), (by first | exact p8 | exact fun _ => rfl), (by first | exact p9 | exact fun _ => rfl), (by first | exact p12 | exact fun _ => rfl), (fun _ => rfl), (by simp [h14]), (by simpa using q2), (by simpa using q3), (by simpa using q4), (by simpa using q5), (by simpa using q7), (by simpa using q8), (by simpa using q9), (by simpa using q10), (by simpa using q11), (by simpa using q12), (by simp [he]), (by simp [h14]), (by simp [h15]), (by simpa [h14, h15] using hS)⟩
    · have h15 : L 15 = false := by cases hh : L 15 with | false => rfl | true => (have hq := q15 hh; simp [hi] at hq)
      obtain rfl := p13 (by simp [he])
      refine wpOp_step rfl (fun K hK => ?_)
      go_simp
      exact hK _ _ ⟨_, _, _, _, _, _, _, _, _, _, _, _, _, _, _, rfl, (by first | exact p0 | exact fun _ => rfl), (by first | exact p1 | exact fun _ => rfl), (by first | exact p2 | exact fun _ => rfl), (by first | exact p3 | exact fun _ => rfl), (by first | exact p4 | exact fun _ => rfl), (by first | exact p5 | exact fun _ => rfl), (by first | exact p6 | exact fun _ => rfl), (by first | exact p7 | exact fun _ => rfl), (by first | exact p8 | exact fun _ => rfl), (by first | exact p9 | exact fun _ => rfl), (by first | exact p12 | exact fun _ => rfl), (by first | exact p13 | exact fun _ => rfl), (fun _ => rfl), (by simpa using q2), (by simpa using q3), (by simpa using q4), (by simpa using q5), (by simpa using q7), (by simpa using q8), (by simpa using q9), (by simpa using q10), (by simpa using q11), (by simpa using q12), (by simpa using q13), (by simp [he]), (by simp [h15]), (by simpa [h15] using hS)⟩
    · obtain rfl := p14 (by simp [he])
      have t10 : L 10 = true := by simp [he]
      have t11 : L 11 = true := by simp [he]
      rw [if_neg (by simp [hi]), if_pos t11] at hS
      obtain ⟨A', c', rfl, hc', hS⟩ := hS
      have e0 := hS.cell 0 rfl (k := 2) rfl
      have u0 := hS.froz 0 rfl (k := 2)
      have hN := hS.set 0 rfl (k := 2) (.slice A' (nr + 1) c')
      refine wpOp_step rfl (fun K hK => ?_)
      go_simp
      exact hK _ _ ⟨_, _, _, _, _, _, _, _, _, _, _, _, _, _, _, rfl, (by first | exact p0 | exact fun _ => rfl), (by first | exact p1 | exact fun _ => rfl), (by first | exact p2 | exact fun _ => rfl), (by first | exact p3 | exact fun _ => rfl), (by first | exact p4 | exact fun _ => rfl), (by first | exact p5 | exact fun _ => rfl), (by first | exact p6 | exact fun _ => rfl), (by first | exact p7 | exact fun _ => rfl), (by first | exact p8 | exact fun _ => rfl), (by first | exact p9 | exact fun _ => rfl), (by first | exact p12 | exact fun _ => rfl), (by first | exact p13 | exact fun _ => rfl), (by first | exact p14 | exact fun _ => rfl), (by simpa using q2), (by simpa using q3), (by simpa using q4), (by simpa using q5), (by simpa using q7), (by simpa using q8), (by simpa using q9), (by simpa using q10), (by simpa using q11), (by simpa using q12), (by simpa using q13), (by simpa using q14), (by simp [he]), (by rw [if_pos (by simp)]; exact ⟨A', c', rfl, hc', hN⟩)⟩
  · rintro L ac w' ⟨x64, x65, x66, x67, x68, x69, x70, x71, x72, x73, x74, x75, x76, x77, x78, ha, p0, p1, p2, p3, p4, p5, p6, p7, p8, p9, p12, p13, p14, q2, q3, q4, q5, q7, q8, q9, q10, q11, q12, q13, q14, q15, hS⟩ hall
    have t10 := hall 10 (by decide)
    have t11 := hall 11 (by decide)
    have t15 := hall 15 (by decide)
    rw [if_pos t15] at hS
    obtain ⟨A', c', rfl, hc', hS⟩ := hS
    obtain rfl := p0 (hall 0 (by decide))
    obtain rfl := p1 (hall 1 (by decide))
    obtain rfl := p2 (hall 2 (by decide))
    obtain rfl := p3 (hall 3 (by decide))
    obtain rfl := p4 (hall 4 (by decide))
    obtain rfl := p5 (hall 5 (by decide))
    obtain rfl := p6 (hall 6 (by decide))
    obtain rfl := p7 (hall 7 (by decide))
    obtain rfl := p8 (hall 8 (by decide))
    obtain rfl := p9 (hall 9 (by decide))
    obtain rfl := p12 (hall 12 (by decide))
    obtain rfl := p13 (hall 13 (by decide))
    obtain rfl := p14 (hall 14 (by decide))
    simp only [turn, List.foldl_cons, List.foldl_nil, List.setIfInBounds_toArray, List.set_cons_succ, List.set_cons_zero] at ha
    subst ha
    clear q2 q3 q4 q5 q7 q8 q9 q10 q11 q12 q13 q14 q15  t10 t11 t15
    have H9 := Lib.hid hS
    clear hS
    go_wp2
    refine bodyPost_end (v := .tuple #[]) (by simp [results, Tryz.results20]) rfl ?_
    have K9 : Sep w0 w' (ccI gc (.int .i64 (sz : Int)) (.slice A6 (l.length + 1) c6) (.slice A' (c.rd ++ [yd]).length c') fz s' st' :: ptI A6 (l.length + 1) c6 (bl6 ++ [g]) :: rdI A' (c.rd ++ [yd]).length c' (c.rd ++ [yd]) :: pgI g ⟨yn, yd, yw⟩ :: opI gx 1 np d :: (objs bl6 l ++ (J ++ K))) := by
      have := H9.out
      rw [HM6.out, HBZ.out, HNR.out, HRD.out, HTT.out] at this
      rw [List.length_append]
      simp only [rdI, List.flatMap_append]
      exact this
    rw [HFZ.out] at K9
    rw [HY.out.1, HY.out.2.1, HY.out.2.2] at K9
    exact ⟨rfl, st_close HBP.out HCP.out K9⟩
end Ca
end Go.Proofs.YtjopiepfjbnkbaaGreatDoor
