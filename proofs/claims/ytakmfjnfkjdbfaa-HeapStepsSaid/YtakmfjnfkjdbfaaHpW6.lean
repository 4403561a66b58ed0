/-
  Walk of the reference's FPush. Conditions: none.
-/
import Derived.Test.YtakmfjnfkjdbfaaHpW5
namespace Go.Proofs.Ytakmfjnfkjdbfaa
open Go.RowKit
set_option linter.unusedVariables false
namespace Hp

set_option maxRecDepth 100000 in
set_option maxHeartbeats 1600000 in
theorem fpush_bad (A : Option Addr) (n c : Nat) (l : List W) (x : W) (w : World) (hr : Rd w w.heap.size 2 A n (l.flatMap W.cells)) (hl : l.length = n) (hn : n * 16 ≤ 140737488355328) (hbad : ¬ Rt l) :
    Calls Try.prog 10 #[.slice A n c, .agg #[.int .i64 x.id, .int .i64 x.wear]] w (PushRet w [] 1) := by
  have HS0 := Lib.hid ((Sep.nil_ w).alloc (.cells #[.int .i64 x.id, .int .i64 x.wear] 24))
  have cR := Lib.hid (fright_is A n c l false _ (hr.later HS0.out.below) hl hn (rt_false hbad))
  clear hr hl hbad
  go_enter Try.func10, Try.ntmps10
  go_wp2_with fail
  refine cR.out.mono ?_; rintro e1 w1 ⟨rfl, hb1⟩
  have HS1 := Lib.hid ((HS0.out.later hb1).nilRow 24 2 none)
  clear cR hb1 HS0
  go_wp2
  refine bodyPost_ret (v := .tuple #[.slice none 0 0, .int .i64 1]) (by simp [results, Try.results10]) rfl ?_
  exact ⟨none, 0, Nat.le_refl _, rfl, HS1.out⟩
set_option maxRecDepth 100000 in
set_option maxHeartbeats 1600000 in
theorem fpush_full (A : Option Addr) (n c : Nat) (l : List W) (x : W) (w : World) (hr : Rd w w.heap.size 2 A n (l.flatMap W.cells)) (hl : l.length = n) (hn : n * 16 ≤ 140737488355328) (hrt : Rt l) (hbig : 4096 ≤ n) :
    Calls Try.prog 10 #[.slice A n c, .agg #[.int .i64 x.id, .int .i64 x.wear]] w (PushRet w [] 4) := by
  have HS0 := Lib.hid ((Sep.nil_ w).alloc (.cells #[.int .i64 x.id, .int .i64 x.wear] 24))
  have cR := Lib.hid (fright_is A n c l true _ (hr.later HS0.out.below) hl hn (rt_true hrt))
  have hb2 : (4095 : Int) < (n : Int) := by omega
  have hb3 : 4095 < n := by omega
  clear hr hl hrt
  go_enter Try.func10, Try.ntmps10
  go_wp2_with fail
  refine cR.out.mono ?_; rintro e1 w1 ⟨rfl, hb1⟩
  have HS1 := Lib.hid ((HS0.out.later hb1).nilRow 24 2 none)
  clear cR hb1 HS0
  go_wp2
  refine bodyPost_ret (v := .tuple #[.slice none 0 0, .int .i64 4]) (by simp [results, Try.results10]) rfl ?_
  exact ⟨none, 0, Nat.le_refl _, rfl, HS1.out⟩

set_option maxRecDepth 100000 in
set_option maxHeartbeats 3200000 in
theorem fpush_any (A : Option Addr) (n c : Nat) (l lf : List W) (x : W) (w : World) (hr : Rd w w.heap.size 2 A n (l.flatMap W.cells)) (hl : l.length = n) (hn : n < 4096) (hrt : Rt l) (hu : Up x (l ++ [x]) n lf) (hlf : lf.length = n + 1) :
    Calls Try.prog 10 #[.slice A n c, .agg #[.int .i64 x.id, .int .i64 x.wear]] w (PushRet w lf 0) := by
  obtain ⟨ti, hti, t0, t1, t2⟩ := info_parts worn_info
  have HS0 : Hid (Sep w (w.alloc (.cells #[.int .i64 x.id, .int .i64 x.wear] 24)) [.cells w.heap.size 24 x.cells]) := Lib.hid ((Sep.nil_ w).new 24 x.cells)
  have cR := Lib.hid (fright_is A n c l true _ (hr.later HS0.out.below) hl (by omega) (rt_true hrt))
  have HR := Lib.hid hr
  have HL := Lib.hid hl
  have HU0 := Lib.hid hu
  have HLF := Lib.hid hlf
  clear hr hl hrt hu hlf
  go_enter Try.func10, Try.ntmps10
  go_wp2_with fail
  refine cR.out.mono ?_; rintro e1 w1 ⟨rfl, hb1⟩
  have HS1 := Lib.hid (HS0.out.later hb1)
  clear cR hb1 HS0
  have hb2 : ¬ (4095 : Int) < (n : Int) := by omega
  have hb3 : ¬ 4095 < n := by omega
  go_upto_region 5 with (fail)
  generalize w.heap.size = gb at HS1 ⊢
  go_cut [6] (fun v6 wc => ∃ A6 c6, v6 = .slice A6 (n + 1) c6 ∧ n + 1 ≤ c6 ∧ Sep w wc [.row 24 2 (.slice A6 (n + 1) c6) (n + 1) ((l ++ [x]).flatMap W.cells), .cells gb 24 x.cells])
  case first =>
    refine wp_region_inv0 (fun a0 L a w' => ∃ x6 x14 x15 x16 x17 x18 x19, a = turn a0 [(6, x6), (14, x14), (15, x15), (16, x16), (17, x17), (18, x18), (19, x19)] ∧ (L 0 = true → ∃ ga, x14 = .slice (some ga) 0 0) ∧ (L 1 = true → x15 = .slice A n c) ∧ (L 3 = true → x17 = .agg #[.int .i64 x.id, .int .i64 x.wear]) ∧ (L 2 = true → L 0 = true ∧ L 1 = true) ∧ (L 4 = true → L 3 = true) ∧ (L 5 = true → L 2 = true ∧ L 4 = true) ∧ (L 6 = true → L 5 = true) ∧
      (if L 5 = true then (∃ A7 c7, x19 = .slice A7 (n + 1) c7 ∧ n + 1 ≤ c7 ∧ (L 6 = true → x6 = x19) ∧ Sep w w' [.row 24 2 (.slice A7 (n + 1) c7) (n + 1) ((l ++ [x]).flatMap W.cells), .cells gb 24 x.cells])
      else ((L 2 = true → Copied w w' gb n x l x16) ∧ (L 4 = true → OneAt w' x x18) ∧ Sep w w' [.cells gb 24 x.cells]))) rfl (by kernel_rfl) ?_ ?_ ?_
    · simp only [turn, List.foldl_cons, List.foldl_nil, List.setIfInBounds_toArray, List.set_cons_succ, List.set_cons_zero]
      exact ⟨_, _, _, _, _, _, _, rfl, by simp, by simp, by simp, by simp, by simp, by simp, by simp, by simpa using HS1.out.drew⟩
    · rintro L a w' i o ⟨x6, x14, x15, x16, x17, x18, x19, ha, p0, p1, p3, q2, q4, q5, q6, hS⟩ ho hi he
      simp only [turn, List.foldl_cons, List.foldl_nil, List.setIfInBounds_toArray, List.set_cons_succ, List.set_cons_zero] at ha ⊢
      subst ha
      rcases i with _|_|_|_|_|_|_|i
      all_goals cases ho
      all_goals simp [Region.binds] at he
      · have h5 : L 5 = false := not_yet fun h => (q2 (q5 h).1).1.symm.trans hi
        have h2 : L 2 = false := not_yet fun h => (q2 h).1.symm.trans hi
        simp only [h5, Bool.false_eq_true, if_false] at hS
        obtain ⟨hc2, hc4, hS⟩ := hS
        refine wpOp_step rfl (fun K hK => ?_)
        go_simp
        have hb := (Below.refl w'.heap.size w').alloc (Nat.le_refl _) (.cells #[] 24)
        refine hK _ _ ⟨_, _, _, _, _, _, _, rfl, fun _ => ⟨_, rfl⟩, (by first | exact p1 | exact fun _ => rfl), (by first | exact p3 | exact fun _ => rfl), by simp [h2], by simpa using q4, by simp [h5], by simpa using q6, ?_⟩
        simp only [show (5 : Nat) = 0 ↔ False by decide, if_false, h5, Bool.false_eq_true]
        exact ⟨fun h => (hc2 (by simpa using h)).later hb, fun h => (hc4 (by simpa using h)).later hb, hS.later hb⟩
      · have h5 : L 5 = false := not_yet fun h => (q2 (q5 h).1).2.symm.trans hi
        have h2 : L 2 = false := not_yet fun h => (q2 h).2.symm.trans hi
        refine wpOp_step rfl (fun K hK => ?_)
        go_simp
        refine hK _ _ ⟨_, _, _, _, _, _, _, rfl, (by first | exact p0 | exact fun _ => rfl), fun _ => rfl, (by first | exact p3 | exact fun _ => rfl), by simp [h2], by simpa using q4, by simp [h5], by simpa using q6, ?_⟩
        simpa [h5] using hS
      · obtain ⟨ga, rfl⟩ := p0 he.1
        obtain rfl := p1 he.2
        have h5 : L 5 = false := not_yet fun h => (q5 h).1.symm.trans hi
        simp only [h5, Bool.false_eq_true, if_false] at hS
        obtain ⟨hc2, hc4, hS⟩ := hS
        refine wpOp_at rfl rfl ?_
        refine oper_append_sep (hS.nilRow 24 2 (some ga)) 1 (.tmp 14) (.tmp 15) 22 rfl 24 ti (.agg #[.int .i64 0, .int .i64 0]) 2 16 Try.underlying22 hti t0 t1 t2 rfl (by omega) _ 0 _ rfl rfl _ A n c _ rfl (HR.out.later hS.below) (W.one l) (by simp only [maxLen]; omega) (by omega) ?_
        intro A7 c7 w7 hc7 hs7 H7
        simp only [Nat.zero_add, List.nil_append] at H7 hc7 ⊢
        refine ⟨_, _, _, _, _, _, _, rfl, (by first | exact p0 | exact fun _ => rfl), (by first | exact p1 | exact fun _ => rfl), (by first | exact p3 | exact fun _ => rfl), by simp [he], by simpa using q4, by simp [h5], by simpa using q6, ?_⟩
        simp only [show (5 : Nat) = 2 ↔ False by decide, if_false, h5, Bool.false_eq_true]
        exact ⟨fun _ => ⟨A7, c7, rfl, hc7, H7⟩, fun h => (hc4 (by simpa using h)).later ((Below.refl w'.heap.size w').grown hs7 (Nat.le_refl _) (fun k hk => by cases hk)), H7.pick [0] (by decide) (by simp)⟩
      · have h5 : L 5 = false := not_yet fun h => (q4 (q5 h).2).symm.trans hi
        have h4 : L 4 = false := not_yet fun h => (q4 h).symm.trans hi
        simp only [h5, Bool.false_eq_true, if_false] at hS
        have d0 := hS.2.2.cell 0 rfl (k := 0) rfl
        have d1 := hS.2.2.cell 0 rfl (k := 1) rfl
        refine wpOp_step rfl (fun K hK => ?_)
        go_simp
        refine hK _ _ ⟨_, _, _, _, _, _, _, rfl, (by first | exact p0 | exact fun _ => rfl), (by first | exact p1 | exact fun _ => rfl), fun _ => rfl, by simpa using q2, by simp [h4], by simp [h5], by simpa using q6, ?_⟩
        simpa [h5] using hS
      · obtain rfl := p3 (by simp [he])
        have h5 : L 5 = false := not_yet fun h => (q5 h).2.symm.trans hi
        simp only [h5, Bool.false_eq_true, if_false] at hS
        obtain ⟨hc2, hc4, hS⟩ := hS
        refine wpOp_step rfl (fun K hK => ?_)
        go_simp
        have hb := (Below.refl w'.heap.size w').alloc (Nat.le_refl _) (.cells #[.int .i64 x.id, .int .i64 x.wear] 24)
        refine hK _ _ ⟨_, _, _, _, _, _, _, rfl, (by first | exact p0 | exact fun _ => rfl), (by first | exact p1 | exact fun _ => rfl), (by first | exact p3 | exact fun _ => rfl), by simpa using q2, by simp [he], by simp [h5], by simpa using q6, ?_⟩
        simp only [show (5 : Nat) = 4 ↔ False by decide, if_false, h5, Bool.false_eq_true]
        exact ⟨fun h => (hc2 (by simpa using h)).later hb, fun _ => ⟨_, _, rfl, Nat.le_refl _, Rd.of_own (own_new w' 24 #[.int .i64 x.id, .int .i64 x.wear] 2 1 rfl (by simp [maxLen]) (Nat.le_refl _))⟩, hS.later hb⟩
      · simp only [hi, Bool.false_eq_true, if_false] at hS
        obtain ⟨hc1, hc3, hS⟩ := hS
        obtain ⟨A5, c5, rfl, hc5, S5⟩ := hc1 he.1
        obtain ⟨A3, c3, rfl, _, r3⟩ := hc3 he.2.1
        refine wpOp_at rfl rfl ?_
        refine oper_append_sep S5 1 (.tmp 16) (.tmp 18) 22 rfl 24 ti (.agg #[.int .i64 0, .int .i64 0]) 2 16 Try.underlying22 hti t0 t1 t2 rfl (by omega) _ n _ rfl rfl _ A3 1 c3 _ rfl r3 (by simp [Value.oneCell', W.cells]) (by simp only [maxLen]; omega) (by omega) ?_
        intro A7 c7 w7 hc7 hs7 H7
        have h6 : L 6 = false := by
          cases h : L 6 with
          | false => rfl
          | true => rw [q6 h] at hi; cases hi
        refine ⟨_, _, _, _, _, _, _, rfl, (by first | exact p0 | exact fun _ => rfl), (by first | exact p1 | exact fun _ => rfl), (by first | exact p3 | exact fun _ => rfl), by simpa using q2, by simpa using q4, by simp [he], by simp, ?_⟩
        simp only [if_true]
        refine ⟨A7, c7, rfl, hc7, by simp [h6], ?_⟩
        rw [List.flatMap_append, List.flatMap_cons, List.flatMap_nil, List.append_nil]
        exact H7.pick [1, 0] (by decide) (by simp)
      · have h5 : L 5 = true := he.1
        simp only [h5, if_true] at hS
        obtain ⟨A7, c7, rfl, hc7, _, hS⟩ := hS
        refine wpOp_step rfl (fun K hK => ?_)
        go_simp
        refine hK _ _ ⟨_, _, _, _, _, _, _, rfl, (by first | exact p0 | exact fun _ => rfl), (by first | exact p1 | exact fun _ => rfl), (by first | exact p3 | exact fun _ => rfl), by simpa using q2, by simpa using q4, by simpa using q5, by simp [h5], ?_⟩
        simp only [show (5 : Nat) = 6 ↔ False by decide, if_false, h5, if_true]
        exact ⟨A7, c7, rfl, hc7, (by first | exact fun _ => rfl | trivial), hS⟩
    · rintro L a w' ⟨x6, x14, x15, x16, x17, x18, x19, ha, p0, p1, p3, q2, q4, q5, q6, hS⟩ hall
      simp only [hall 5 (by decide), if_true] at hS
      obtain ⟨A7, c7, rfl, hc7, h6, hS⟩ := hS
      obtain rfl := h6 (hall 6 (by decide))
      simp only [turn, List.foldl_cons, List.foldl_nil, List.setIfInBounds_toArray, List.set_cons_succ, List.set_cons_zero] at ha
      subst ha
      go_wp2
      go_meet
      exact ⟨A7, c7, rfl, hc7, hS⟩
  case rest =>
    clear HS1 HR
    obtain ⟨A6, c6, rfl, hc6, hs6⟩ := hcut
    have HS2 := Lib.hid hs6
    have HLX : Hid ((l ++ [x]).length = n + 1 ∧ (l ++ [x])[n]? = some x) := Lib.hid (by rw [List.length_append, HL.out]; exact ⟨rfl, by rw [List.getElem?_append_right (Nat.le_of_eq HL.out), HL.out, Nat.sub_self]; rfl⟩)
    clear hs6
    go_wp2
    go_loopg [7] n (fun g i wr => ∃ (cur : List W), g ≤ n ∧ i = .int .i64 (g : Int) ∧ Hid (Up x cur g lf) ∧ Hid (cur.length = n + 1) ∧ Hid (cur[g]? = some x) ∧ Sep w wr [.row 24 2 (.slice A6 (n + 1) c6) (n + 1) (cur.flatMap W.cells), .cells gb 24 x.cells])
    case atStart => exact ⟨l ++ [x], Nat.le_refl _, rfl, HU0, Lib.hid HLX.out.1, Lib.hid HLX.out.2, HS2.out⟩
    case round =>
      clear HS2 HU0 HLX
      obtain ⟨cur, hk, rfl, HU, HCL, HX, hs⟩ := hrel
      have HS := Lib.hid hs
      clear hs
      obtain ⟨lf', he, hu⟩ : ∃ lf', Hid (lf' = lf) ∧ Up x cur gk lf' := ⟨lf, Lib.hid rfl, HU.out⟩
      clear HU
      obtain ⟨gb', rfl, _, _⟩ := HS.out.rowAt 0 rfl (by omega)
      have hn0 : 0 < n + 1 := by omega
      have b0 := fun z : LaterOf wr => z.cell (HS.out.cell 1 rfl (k := 0) rfl)
      have b1 := fun z : LaterOf wr => z.cell (HS.out.cell 1 rfl (k := 1) rfl)
      cases hu with
      | zero =>
        go_wp2
        refine wp_region_later (by kernel_rfl) (by kernel_rfl) ?_
        repeat (go_big_quiet_step (fail))
        refine wpQuiet_nil ?_; intro x1 hw'; obtain ⟨xq, hw''⟩ := hw'; obtain ⟨xw0, h1⟩ := xq; change x1 = xw0 at hw''; subst hw''
        go_wp2
        refine bodyPost_ret (v := .tuple #[.slice (some ⟨gb', 0, none⟩) (n + 1) c6, .int .i64 0]) (by simp [results, Try.results10]) rfl ?_
        unfold PushRet
        rw [HLF.out, ← he.out]
        exact ⟨_, c6, hc6, rfl, (HS.out.later h1).pick [0] (by decide) (by simp)⟩
      | @stop _ _ y hk0 hy hc =>
        obtain ⟨m, rfl⟩ : ∃ m, gk = m + 1 := ⟨gk - 1, by omega⟩
        obtain ⟨j, HJ⟩ : ∃ j, Hid (j = m / 2) := ⟨_, Lib.hid rfl⟩
        have hj : j ≤ m := by have := HJ.out; omega
        have i0 : (0 : Int) < ((m + 1 : Nat) : Int) := by omega
        have i1 : ((m + 1 : Nat) : Int) < ((n + 1 : Nat) : Int) := by omega
        have i2 : ((m + 1 : Nat) : Int) - 1 = (m : Int) := by omega
        have i3 : Int.tdiv (m : Int) 2 = (j : Int) := by rw [HJ.out]; exact half m
        have i4 : (0 : Int) ≤ (j : Int) := by omega
        have i5 : (j : Int) < ((n + 1 : Nat) : Int) := by omega
        have i6 : (0 : Int) ≤ ((m + 1 : Nat) : Int) := by omega
        have cx := W.rowCells HX.out
        have cy : (cur.flatMap W.cells)[j * 2]? = some (.int .i64 y.id) ∧ (cur.flatMap W.cells)[j * 2 + 1]? = some (.int .i64 y.wear) := by rw [HJ.out]; exact W.rowCells hy
        have cK := Lib.hid (fun V => fless_is x y false V hc)
        clear hy hc
        obtain ⟨gx, hgx, _, hat⟩ := HS.out.rowAt 0 rfl hn0
        cases hgx
        have e0 := fun z : LaterOf wr => z.cell ((hat _).1 _ cy.1)
        have e1 := fun z : LaterOf wr => z.cell ((hat _).1 _ cy.2)
        clear hat
        go_wp2
        refine wp_region_later (by kernel_rfl) (by kernel_rfl) ?_
        repeat (go_big_quiet_step ((go_at_call 39; exact Calls.later (cK.out _))))
        refine wpQuiet_nil ?_; intro x1 hw'; obtain ⟨xq, hw''⟩ := hw'; obtain ⟨xw0, h1⟩ := xq; change x1 = xw0 at hw''; subst hw''
        go_wp2
        refine bodyPost_ret (v := .tuple #[.slice (some ⟨gb', 0, none⟩) (n + 1) c6, .int .i64 0]) (by simp [results, Try.results10]) rfl ?_
        unfold PushRet
        rw [HLF.out, ← he.out]
        exact ⟨_, c6, hc6, rfl, (HS.out.later h1).pick [0] (by decide) (by simp)⟩
      | @go _ _ _ y hk0 hy hc hr =>
        obtain ⟨m, rfl⟩ : ∃ m, gk = m + 1 := ⟨gk - 1, by omega⟩
        obtain ⟨j, HJ⟩ : ∃ j, Hid (j = m / 2) := ⟨_, Lib.hid rfl⟩
        have hj : j ≤ m := by have := HJ.out; omega
        have i0 : (0 : Int) < ((m + 1 : Nat) : Int) := by omega
        have i1 : ((m + 1 : Nat) : Int) < ((n + 1 : Nat) : Int) := by omega
        have i2 : ((m + 1 : Nat) : Int) - 1 = (m : Int) := by omega
        have i3 : Int.tdiv (m : Int) 2 = (j : Int) := by rw [HJ.out]; exact half m
        have i4 : (0 : Int) ≤ (j : Int) := by omega
        have i5 : (j : Int) < ((n + 1 : Nat) : Int) := by omega
        have i6 : (0 : Int) ≤ ((m + 1 : Nat) : Int) := by omega
        have cx := W.rowCells HX.out
        have cy : (cur.flatMap W.cells)[j * 2]? = some (.int .i64 y.id) ∧ (cur.flatMap W.cells)[j * 2 + 1]? = some (.int .i64 y.wear) := by rw [HJ.out]; exact W.rowCells hy
        have cy2 : ((cur.set (m + 1) y).flatMap W.cells)[j * 2]? = some (.int .i64 y.id) ∧ ((cur.set (m + 1) y).flatMap W.cells)[j * 2 + 1]? = some (.int .i64 y.wear) := W.rowCells (by rw [List.getElem?_set, if_neg (by omega), HJ.out]; exact hy)
        have HR' : Hid (Up x ((cur.set (m + 1) y).set j x) j lf) := Lib.hid (by rw [HJ.out, ← he.out]; exact hr)
        have cK := Lib.hid (fun V => fless_is x y true V hc)
        clear hy hc hr
        obtain ⟨gx, hgx, _, hat⟩ := HS.out.rowAt 0 rfl hn0
        cases hgx
        have e0 := fun z : LaterOf wr => z.cell ((hat _).1 _ cy.1)
        have e1 := fun z : LaterOf wr => z.cell ((hat _).1 _ cy.2)
        clear hat
        go_wp2
        refine wp_region_later (by kernel_rfl) (by kernel_rfl) ?_
        repeat (go_big_quiet_step ((go_at_call 39; exact Calls.later (cK.out _))))
        refine wpQuiet_nil ?_; intro x1 hw'; obtain ⟨xq, hw''⟩ := hw'; obtain ⟨xw0, h1⟩ := xq; change x1 = xw0 at hw''; subst hw''
        have HS2 := Lib.hid (HS.out.later h1)
        clear e0 e1 b0 b1 HS
        obtain ⟨gx, hgx, _, hat⟩ := HS2.out.rowAt 0 rfl hn0
        cases hgx
        have e0 := (hat _).1 _ cy.1
        have e1 := (hat _).1 _ cy.2
        have d0 := (hat _).1 _ cx.1
        have d1 := (hat _).1 _ cx.2
        have u0 := (hat ((m + 1) * 2)).2.1
        have u1 := (hat ((m + 1) * 2 + 1)).2.1
        clear hat
        have K : Hid (Sep w ((x1.setCell ⟨gb', (m + 1) * 2, none⟩ (.int .i64 y.id)).setCell ⟨gb', (m + 1) * 2 + 1, none⟩ (.int .i64 y.wear)) [.row 24 2 (.slice (some ⟨gb', 0, none⟩) (n + 1) c6) (n + 1) ((cur.set (m + 1) y).flatMap W.cells), .cells gb 24 x.cells]) := Lib.hid (HS2.out.elem W.len 0 rfl (m + 1) (by have := HCL.out; omega) hn0 y)
        go_upto_region 9 with (fail)
        clear d0 d1 e0 e1 u0 u1 HS2
        generalize (x1.setCell ⟨gb', (m + 1) * 2, none⟩ (.int .i64 y.id)).setCell ⟨gb', (m + 1) * 2 + 1, none⟩ (.int .i64 y.wear) = w4 at K ⊢
        obtain ⟨gx, hgx, _, hat⟩ := K.out.rowAt 0 rfl hn0
        cases hgx
        have e0 := (hat _).1 _ cy2.1
        have e1 := (hat _).1 _ cy2.2
        have u0 := (hat (j * 2)).2.1
        have u1 := (hat (j * 2 + 1)).2.1
        have b0 := K.out.cell 1 rfl (k := 0) rfl
        have b1 := K.out.cell 1 rfl (k := 1) rfl
        clear hat
        have K2 := Lib.hid (K.out.elem W.len 0 rfl j (by have := HCL.out; rw [List.length_set]; omega) hn0 x)
        go_wp2
        go_roundg j
        case measure => omega
        case rel => exact ⟨(cur.set (m + 1) y).set j x, by omega, rfl, HR', Lib.hid (by simp [HCL.out]), Lib.hid (by rw [List.getElem?_set, if_pos rfl, if_pos (by rw [List.length_set, HCL.out]; omega)]), K2.out⟩
end Hp
end Go.Proofs.Ytakmfjnfkjdbfaa
