/-
  Walk of heap.Push. Conditions: none.
-/
import Derived.Test.YtakmfjnfkjdbfaaHpW3
import Derived.Test.YtakmfjnfkjdbfaaHead
import Derived.Lib.SliceRun
namespace Go.Proofs.Ytakmfjnfkjdbfaa
open Go.RowKit
set_option linter.unusedVariables false
namespace Hp

set_option maxHeartbeats 800000 in
theorem clone_any (A : Option Addr) (n c : Nat) (xs : List Value) (w : World) (hr : Rd w w.heap.size 2 A n xs) (h1 : ∀ u ∈ xs, u.oneCell' = true) (hn : n * 16 ≤ 140737488355328) (hm : n ≤ 9223372036854775807) :
    Calls Try.prog 37 #[.slice A n c] w (SliceRet w 24 2 n xs) := by
  obtain ⟨ti, hti, t0, t1, t2⟩ := info_parts worn_info
  have HR := Lib.hid hr
  have H1 := Lib.hid h1
  have hnil : ∀ w, (binOp .eql 22 (.slice A n c) (.slice none 0 0)).run Try.prog w = .ok (.bool A.isNone) w := fun w => Lib.run_eql_slice_nil w 22 24 A n c 0 0 Try.underlying22
  clear hr h1
  cases A with
  | none =>
    obtain rfl : n = 0 := by
      rcases Nat.eq_zero_or_pos n with h | h
      · exact h
      · obtain ⟨b, off, hA, _⟩ := HR.out.2 h; cases hA
    obtain rfl : xs = [] := List.eq_nil_of_length_eq_zero (by have := HR.out.1; omega)
    have hnil' : ∀ w, (binOp .eql 22 (.slice none 0 c) (.slice none 0 0)).run Try.prog w = .ok (.bool true) w := hnil
    clear hnil
    go_enter Try.func37, Try.ntmps37
    go_wp2
    go_ret
    exact ⟨none, 0, Nat.le_refl _, rfl, (Sep.nil_ w).nilRow 24 2 none⟩
  | some a =>
    have hnil' : ∀ w, (binOp .eql 22 (.slice (some a) n c) (.slice none 0 0)).run Try.prog w = .ok (.bool false) w := hnil
    clear hnil
    have HS0 : Hid (Sep w (w.alloc (.cells #[] 24)) [.row 24 2 (.slice (some ⟨w.heap.size, 0, none⟩) 0 0) 0 []]) := Lib.hid (((Sep.nil_ w).alloc _).nilRow 24 2 _)
    have HRs := Lib.hid (HR.out.later HS0.out.below)
    go_enter Try.func37, Try.ntmps37
    go_wp2_with (at_builtin; refine wpList_append_sep HS0.out 0 rfl (.tmp 5) (.tmp 6) 22 rfl 24 ti (.agg #[.int .i64 0, .int .i64 0]) 2 16 Try.underlying22 hti t0 t1 t2 rfl (by omega) _ 0 _ rfl rfl _ _ n c _ rfl HRs.out H1.out (by simp only [maxLen]; omega) (by omega) ?_; intro A6 c6 w3 hc6 hs3 HA)
    go_ret
    simp only [Nat.zero_add, List.nil_append] at HA hc6 ⊢
    exact ⟨A6, c6, hc6, rfl, HA⟩

def PushRet (w : World) (out : List W) (e : Int) (en : Ending) (w' : World) : Prop :=
  ∃ A c, out.length ≤ c ∧ en = .returned (.tuple #[.slice A out.length c, .int .i64 e]) ∧ Sep w w' [.row 24 2 (.slice A out.length c) out.length (out.flatMap W.cells)]
/-- what lies ahead of the append: a row of the call's own, as a copy -/
def Copied (w w' : World) (gb n : Nat) (x : W) (l : List W) (v : Value) : Prop := ∃ A c, v = .slice A n c ∧ n ≤ c ∧ Sep w w' [.cells gb 24 x.cells, .row 24 2 (.slice A n c) n (l.flatMap W.cells)]
def OneAt (w : World) (x : W) (v : Value) : Prop := ∃ A c, v = .slice A 1 c ∧ 1 ≤ c ∧ Rd w w.heap.size 2 A 1 x.cells
theorem OneAt.later {w w' : World} {x : W} {v : Value} (h : OneAt w x v) (hb : Below w.heap.size w w') : OneAt w' x v := by
  obtain ⟨A, c, e, h1, h2⟩ := h
  exact ⟨A, c, e, h1, h2.later hb⟩
theorem Copied.later {w w' w'' : World} {gb n : Nat} {x : W} {l : List W} {v : Value} (h : Copied w w' gb n x l v) (hb : Below w'.heap.size w' w'') : Copied w w'' gb n x l v := by
  obtain ⟨A, c, e, h1, h2⟩ := h
  exact ⟨A, c, e, h1, h2.later hb⟩

theorem not_yet {b : Bool} (h : b = true → true = false) : b = false := by
  cases b with
  | false => rfl
  | true => exact h rfl
theorem rt_true {l : List W} (h : Rt l) : true = true ↔ Rt l := ⟨fun _ => h, fun _ => rfl⟩
theorem rt_false {l : List W} (h : ¬ Rt l) : false = true ↔ Rt l := ⟨fun e => (by cases e), fun e => absurd e h⟩

set_option maxRecDepth 100000 in
set_option maxHeartbeats 1600000 in
theorem push_bad (A : Option Addr) (n c : Nat) (l : List W) (x : W) (w : World) (hr : Rd w w.heap.size 2 A n (l.flatMap W.cells)) (hl : l.length = n) (hn : n * 16 ≤ 140737488355328) (hbad : ¬ Rt l) :
    Calls Try.prog 9 #[.slice A n c, .agg #[.int .i64 x.id, .int .i64 x.wear]] w (PushRet w [] 1) := by
  have HS0 := Lib.hid ((Sep.nil_ w).alloc (.cells #[.int .i64 x.id, .int .i64 x.wear] 24))
  have cR := Lib.hid (right_is A n c l false _ (hr.later HS0.out.below) hl hn (rt_false hbad))
  clear hr hl hbad
  go_enter Try.func9, Try.ntmps9
  go_wp2_with fail
  refine cR.out.mono ?_; rintro e1 w1 ⟨rfl, hb1⟩
  have HS1 := Lib.hid ((HS0.out.later hb1).nilRow 24 2 none)
  clear cR hb1 HS0
  go_wp2
  refine bodyPost_ret (v := .tuple #[.slice none 0 0, .int .i64 1]) (by simp [results, Try.results9]) rfl ?_
  exact ⟨none, 0, Nat.le_refl _, rfl, HS1.out⟩
set_option maxRecDepth 100000 in
set_option maxHeartbeats 1600000 in
theorem push_full (A : Option Addr) (n c : Nat) (l : List W) (x : W) (w : World) (hr : Rd w w.heap.size 2 A n (l.flatMap W.cells)) (hl : l.length = n) (hn : n * 16 ≤ 140737488355328) (hrt : Rt l) (hbig : 4096 ≤ n) :
    Calls Try.prog 9 #[.slice A n c, .agg #[.int .i64 x.id, .int .i64 x.wear]] w (PushRet w [] 4) := by
  have HS0 := Lib.hid ((Sep.nil_ w).alloc (.cells #[.int .i64 x.id, .int .i64 x.wear] 24))
  have cR := Lib.hid (right_is A n c l true _ (hr.later HS0.out.below) hl hn (rt_true hrt))
  have hb2 : (4096 : Int) ≤ (n : Int) := by omega
  clear hr hl hrt
  go_enter Try.func9, Try.ntmps9
  go_wp2_with fail
  refine cR.out.mono ?_; rintro e1 w1 ⟨rfl, hb1⟩
  have HS1 := Lib.hid ((HS0.out.later hb1).nilRow 24 2 none)
  clear cR hb1 HS0
  go_wp2
  refine bodyPost_ret (v := .tuple #[.slice none 0 0, .int .i64 4]) (by simp [results, Try.results9]) rfl ?_
  exact ⟨none, 0, Nat.le_refl _, rfl, HS1.out⟩

set_option maxRecDepth 100000 in
set_option maxHeartbeats 3200000 in
theorem push_any (A : Option Addr) (n c : Nat) (l lf : List W) (x : W) (w : World) (hr : Rd w w.heap.size 2 A n (l.flatMap W.cells)) (hl : l.length = n) (hn : n < 4096) (hrt : Rt l) (hu : Up x (l ++ [x]) n lf) (hlf : lf.length = n + 1) :
    Calls Try.prog 9 #[.slice A n c, .agg #[.int .i64 x.id, .int .i64 x.wear]] w (PushRet w lf 0) := by
  obtain ⟨ti, hti, t0, t1, t2⟩ := info_parts worn_info
  have HS0 : Hid (Sep w (w.alloc (.cells #[.int .i64 x.id, .int .i64 x.wear] 24)) [.cells w.heap.size 24 x.cells]) := Lib.hid ((Sep.nil_ w).new 24 x.cells)
  have cR := Lib.hid (right_is A n c l true _ (hr.later HS0.out.below) hl (by omega) (rt_true hrt))
  have HR := Lib.hid hr
  have HL := Lib.hid hl
  have HU0 := Lib.hid hu
  have HLF := Lib.hid hlf
  clear hr hl hrt hu hlf
  go_enter Try.func9, Try.ntmps9
  go_wp2_with fail
  refine cR.out.mono ?_; rintro e1 w1 ⟨rfl, hb1⟩
  have HS1 := Lib.hid (HS0.out.later hb1)
  clear cR hb1 HS0
  have hb2 : ¬ (4096 : Int) ≤ (n : Int) := by omega
  have hb3 : ¬ 4096 ≤ n := by omega
  go_upto_region 5 with (fail)
  generalize w.heap.size = gb at HS1 ⊢
  have cC := Lib.hid (fun V (hV : Below w.heap.size w V) => clone_any A n c (l.flatMap W.cells) V (HR.out.later hV) (W.one l) (by omega) (by omega))
  go_cut [6] (fun v6 wc => ∃ A6 c6, v6 = .slice A6 (n + 1) c6 ∧ n + 1 ≤ c6 ∧ Sep w wc [.row 24 2 (.slice A6 (n + 1) c6) (n + 1) ((l ++ [x]).flatMap W.cells)])
  case first =>
    refine wp_region_inv0 (fun a0 L a w' => ∃ x6 x17 x18 x19 x20 x21, a = turn a0 [(6, x6), (17, x17), (18, x18), (19, x19), (20, x20), (21, x21)] ∧ (L 0 = true → x17 = .slice A n c) ∧ (L 2 = true → x19 = .agg #[.int .i64 x.id, .int .i64 x.wear]) ∧ (L 1 = true → L 0 = true) ∧ (L 3 = true → L 2 = true) ∧ (L 4 = true → L 1 = true ∧ L 3 = true) ∧ (L 5 = true → L 4 = true) ∧
      (if L 4 = true then (∃ A7 c7, x21 = .slice A7 (n + 1) c7 ∧ n + 1 ≤ c7 ∧ (L 5 = true → x6 = x21) ∧ Sep w w' [.row 24 2 (.slice A7 (n + 1) c7) (n + 1) ((l ++ [x]).flatMap W.cells)])
      else ((L 1 = true → Copied w w' gb n x l x18) ∧ (L 3 = true → OneAt w' x x20) ∧ Sep w w' [.cells gb 24 x.cells]))) rfl (by kernel_rfl) ?_ ?_ ?_
    · simp only [turn, List.foldl_cons, List.foldl_nil, List.setIfInBounds_toArray, List.set_cons_succ, List.set_cons_zero]
      exact ⟨_, _, _, _, _, _, rfl, by simp, by simp, by simp, by simp, by simp, by simp, by simpa using HS1.out.drew⟩
    · rintro L a w' i o ⟨x6, x17, x18, x19, x20, x21, ha, p0, p2, q1, q3, q4, q5, hS⟩ ho hi he
      simp only [turn, List.foldl_cons, List.foldl_nil, List.setIfInBounds_toArray, List.set_cons_succ, List.set_cons_zero] at ha ⊢
      subst ha
      rcases i with _|_|_|_|_|_|i
      all_goals cases ho
      all_goals simp [Region.binds] at he
      · refine wpOp_step rfl (fun K hK => ?_)
        go_simp
        have h4 : L 4 = false := not_yet fun h => (q1 (q4 h).1).symm.trans hi
        refine hK _ _ ⟨_, _, _, _, _, _, rfl, fun _ => rfl, (by first | exact p2 | exact fun _ => rfl), by simp, by simpa using q3, by simp [h4], by simpa using q5, ?_⟩
        simpa [h4] using hS
      · obtain rfl := p0 (by simp [he])
        have h4 : L 4 = false := not_yet fun h => (q4 h).1.symm.trans hi
        simp only [h4, Bool.false_eq_true, if_false] at hS
        obtain ⟨hc1, hc3, hS⟩ := hS
        refine wpOp_step rfl (fun K hK => ?_)
        go_simp
        refine (cC.out _ hS.below).mono ?_; rintro en w5 ⟨A5, c5, hc5, rfl, K5⟩
        refine hK _ _ ⟨_, _, _, _, _, _, rfl, (by first | exact p0 | exact fun _ => rfl), (by first | exact p2 | exact fun _ => rfl), by simp [he], by simpa using q3, by simp [h4], by simpa using q5, ?_⟩
        simp only [show (4 : Nat) = 1 ↔ False by decide, if_false, h4, Bool.false_eq_true]
        exact ⟨fun _ => ⟨A5, c5, rfl, hc5, hS.join K5⟩, fun h => (hc3 (by simpa using h)).later K5.below, hS.later K5.below⟩
      · have h4 : L 4 = false := not_yet fun h => (q3 (q4 h).2).symm.trans hi
        simp only [h4, Bool.false_eq_true, if_false] at hS
        have d0 := hS.2.2.cell 0 rfl (k := 0) rfl
        have d1 := hS.2.2.cell 0 rfl (k := 1) rfl
        refine wpOp_step rfl (fun K hK => ?_)
        go_simp
        refine hK _ _ ⟨_, _, _, _, _, _, rfl, (by first | exact p0 | exact fun _ => rfl), fun _ => rfl, by simpa using q1, by simp, by simp [h4], by simpa using q5, ?_⟩
        simpa [h4] using hS
      · obtain rfl := p2 (by simp [he])
        have h4 : L 4 = false := not_yet fun h => (q4 h).2.symm.trans hi
        simp only [h4, Bool.false_eq_true, if_false] at hS
        obtain ⟨hc1, hc3, hS⟩ := hS
        refine wpOp_step rfl (fun K hK => ?_)
        go_simp
        have hb := (Below.refl w'.heap.size w').alloc (Nat.le_refl _) (.cells #[.int .i64 x.id, .int .i64 x.wear] 24)
        refine hK _ _ ⟨_, _, _, _, _, _, rfl, (by first | exact p0 | exact fun _ => rfl), (by first | exact p2 | exact fun _ => rfl), by simpa using q1, by simp [he], by simp [h4], by simpa using q5, ?_⟩
        simp only [show (4 : Nat) = 3 ↔ False by decide, if_false, h4, Bool.false_eq_true]
        exact ⟨fun h => (hc1 (by simpa using h)).later hb, fun _ => ⟨_, _, rfl, Nat.le_refl _, Rd.of_own (own_new w' 24 #[.int .i64 x.id, .int .i64 x.wear] 2 1 rfl (by simp [maxLen]) (Nat.le_refl _))⟩, hS.later hb⟩
      · simp only [hi, Bool.false_eq_true, if_false] at hS
        obtain ⟨hc1, hc3, hS⟩ := hS
        obtain ⟨A5, c5, rfl, hc5, S5⟩ := hc1 he.1
        obtain ⟨A3, c3, rfl, _, r3⟩ := hc3 he.2.1
        refine wpOp_at rfl rfl ?_
        refine oper_append_sep S5 1 (.tmp 18) (.tmp 20) 22 rfl 24 ti (.agg #[.int .i64 0, .int .i64 0]) 2 16 Try.underlying22 hti t0 t1 t2 rfl (by omega) _ n _ rfl rfl _ A3 1 c3 _ rfl r3 (by simp [Value.oneCell', W.cells]) (by simp only [maxLen]; omega) (by omega) ?_
        intro A7 c7 w7 hc7 hs7 H7
        have h5 : L 5 = false := by
          cases h : L 5 with
          | false => rfl
          | true => rw [q5 h] at hi; cases hi
        refine ⟨_, _, _, _, _, _, rfl, (by first | exact p0 | exact fun _ => rfl), (by first | exact p2 | exact fun _ => rfl), by simpa using q1, by simpa using q3, by simp [he], by simp, ?_⟩
        simp only [if_true]
        refine ⟨A7, c7, rfl, hc7, by simp [h5], ?_⟩
        rw [List.flatMap_append, List.flatMap_cons, List.flatMap_nil, List.append_nil]
        exact H7.pick [1] (by decide) (by simp)
      · have h4 : L 4 = true := he.1
        simp only [h4, if_true] at hS
        obtain ⟨A7, c7, rfl, hc7, _, hS⟩ := hS
        refine wpOp_step rfl (fun K hK => ?_)
        go_simp
        refine hK _ _ ⟨_, _, _, _, _, _, rfl, (by first | exact p0 | exact fun _ => rfl), (by first | exact p2 | exact fun _ => rfl), by simpa using q1, by simpa using q3, by simpa using q4, by simp [h4], ?_⟩
        simp only [show (4 : Nat) = 5 ↔ False by decide, if_false, h4, if_true]
        exact ⟨A7, c7, rfl, hc7, (by first | exact fun _ => rfl | trivial), hS⟩
    · rintro L a w' ⟨x6, x17, x18, x19, x20, x21, ha, p0, p2, q1, q3, q4, q5, hS⟩ hall
      simp only [hall 4 (by decide), if_true] at hS
      obtain ⟨A7, c7, rfl, hc7, h6, hS⟩ := hS
      obtain rfl := h6 (hall 5 (by decide))
      simp only [turn, List.foldl_cons, List.foldl_nil, List.setIfInBounds_toArray, List.set_cons_succ, List.set_cons_zero] at ha
      subst ha
      go_wp2
      go_meet
      exact ⟨A7, c7, rfl, hc7, hS⟩
  case rest =>
    clear HS1 cC HR
    obtain ⟨A6, c6, rfl, hc6, hs6⟩ := hcut
    have HS2 := Lib.hid hs6
    have HLX : Hid ((l ++ [x]).length = n + 1 ∧ (l ++ [x])[n]? = some x) := Lib.hid (by rw [List.length_append, HL.out]; exact ⟨rfl, by rw [List.getElem?_append_right (Nat.le_of_eq HL.out), HL.out, Nat.sub_self]; rfl⟩)
    clear hs6
    have k1 : ((n + 1 : Nat) : Int) - 1 = (n : Int) := by omega
    go_wp2
    go_loopg [7] n (fun g i wr => ∃ (cur : List W), g ≤ n ∧ i = .int .i64 (g : Int) ∧ Hid (Up x cur g lf) ∧ Hid (cur.length = n + 1) ∧ Hid (cur[g]? = some x) ∧ Sep w wr [.row 24 2 (.slice A6 (n + 1) c6) (n + 1) (cur.flatMap W.cells)])
    case atStart => exact ⟨l ++ [x], Nat.le_refl _, rfl, HU0, Lib.hid HLX.out.1, Lib.hid HLX.out.2, HS2.out⟩
    case round =>
      clear HS2 HU0 HLX
      obtain ⟨cur, hk, rfl, HU, HCL, HX, hs⟩ := hrel
      have HS := Lib.hid hs
      clear hs
      obtain ⟨lf', he, hu⟩ : ∃ lf', Hid (lf' = lf) ∧ Up x cur gk lf' := ⟨lf, Lib.hid rfl, HU.out⟩
      clear HU
      obtain ⟨gb', rfl, _, _⟩ := HS.out.rowAt 0 rfl (by omega)
      have hn0 : 0 < n + 1 := by omega
      cases hu with
      | zero =>
        go_wp2
        refine bodyPost_ret (v := .tuple #[.slice (some ⟨gb', 0, none⟩) (n + 1) c6, .int .i64 0]) (by simp [results, Try.results9]) rfl ?_
        unfold PushRet
        rw [HLF.out, ← he.out]
        exact ⟨_, c6, hc6, rfl, HS.out⟩
      | @stop _ _ y hk0 hy hc =>
        obtain ⟨m, rfl⟩ : ∃ m, gk = m + 1 := ⟨gk - 1, by omega⟩
        obtain ⟨j, HJ⟩ : ∃ j, Hid (j = m / 2) := ⟨_, Lib.hid rfl⟩
        have hj : j ≤ m := by have := HJ.out; omega
        have i0 : (0 : Int) < ((m + 1 : Nat) : Int) := by omega
        have i1 : ((m + 1 : Nat) : Int) < ((n + 1 : Nat) : Int) := by omega
        have i2 : ((m + 1 : Nat) : Int) - 1 = (m : Int) := by omega
        have i3 : Int.tdiv (m : Int) 2 = (j : Int) := by rw [HJ.out]; exact half m
        have i4 : (0 : Int) ≤ (j : Int) := by omega
        have i5 : (j : Int) < ((n + 1 : Nat) : Int) := by omega
        have i6 : (0 : Int) ≤ ((m + 1 : Nat) : Int) := by omega
        have cx := W.rowCells HX.out
        have cy : (cur.flatMap W.cells)[j * 2]? = some (.int .i64 y.id) ∧ (cur.flatMap W.cells)[j * 2 + 1]? = some (.int .i64 y.wear) := by rw [HJ.out]; exact W.rowCells hy
        have cK := Lib.hid (fun V => less_is x y false V hc)
        clear hy hc
        obtain ⟨gx, hgx, _, hat⟩ := HS.out.rowAt 0 rfl hn0
        cases hgx
        have d0 := fun z : LaterOf wr => z.cell ((hat _).1 _ cx.1)
        have d1 := fun z : LaterOf wr => z.cell ((hat _).1 _ cx.2)
        clear hat
        obtain ⟨gx, hgx, _, hat⟩ := HS.out.rowAt 0 rfl hn0
        cases hgx
        have e0 := fun z : LaterOf wr => z.cell ((hat _).1 _ cy.1)
        have e1 := fun z : LaterOf wr => z.cell ((hat _).1 _ cy.2)
        clear hat
        go_wp2
        refine wp_region_later (by kernel_rfl) (by kernel_rfl) ?_
        repeat (go_big_quiet_step ((go_at_call 38; exact Calls.later (cK.out _))))
        refine wpQuiet_nil ?_; intro x1 hw'; obtain ⟨xq, hw''⟩ := hw'; obtain ⟨xw0, h1⟩ := xq; change x1 = xw0 at hw''; subst hw''
        go_wp2
        refine bodyPost_ret (v := .tuple #[.slice (some ⟨gb', 0, none⟩) (n + 1) c6, .int .i64 0]) (by simp [results, Try.results9]) rfl ?_
        unfold PushRet
        rw [HLF.out, ← he.out]
        exact ⟨_, c6, hc6, rfl, HS.out.later h1⟩
      | @go _ _ _ y hk0 hy hc hr =>
        obtain ⟨m, rfl⟩ : ∃ m, gk = m + 1 := ⟨gk - 1, by omega⟩
        obtain ⟨j, HJ⟩ : ∃ j, Hid (j = m / 2) := ⟨_, Lib.hid rfl⟩
        have hj : j ≤ m := by have := HJ.out; omega
        have i0 : (0 : Int) < ((m + 1 : Nat) : Int) := by omega
        have i1 : ((m + 1 : Nat) : Int) < ((n + 1 : Nat) : Int) := by omega
        have i2 : ((m + 1 : Nat) : Int) - 1 = (m : Int) := by omega
        have i3 : Int.tdiv (m : Int) 2 = (j : Int) := by rw [HJ.out]; exact half m
        have i4 : (0 : Int) ≤ (j : Int) := by omega
        have i5 : (j : Int) < ((n + 1 : Nat) : Int) := by omega
        have i6 : (0 : Int) ≤ ((m + 1 : Nat) : Int) := by omega
        have cx := W.rowCells HX.out
        have cy : (cur.flatMap W.cells)[j * 2]? = some (.int .i64 y.id) ∧ (cur.flatMap W.cells)[j * 2 + 1]? = some (.int .i64 y.wear) := by rw [HJ.out]; exact W.rowCells hy
        have HR' : Hid (Up x ((cur.set (m + 1) y).set j x) j lf) := Lib.hid (by rw [HJ.out, ← he.out]; exact hr)
        have cK := Lib.hid (fun V => less_is x y true V hc)
        clear hy hc hr
        obtain ⟨gx, hgx, _, hat⟩ := HS.out.rowAt 0 rfl hn0
        cases hgx
        have d0 := fun z : LaterOf wr => z.cell ((hat _).1 _ cx.1)
        have d1 := fun z : LaterOf wr => z.cell ((hat _).1 _ cx.2)
        clear hat
        obtain ⟨gx, hgx, _, hat⟩ := HS.out.rowAt 0 rfl hn0
        cases hgx
        have e0 := fun z : LaterOf wr => z.cell ((hat _).1 _ cy.1)
        have e1 := fun z : LaterOf wr => z.cell ((hat _).1 _ cy.2)
        clear hat
        go_wp2
        refine wp_region_later (by kernel_rfl) (by kernel_rfl) ?_
        repeat (go_big_quiet_step ((go_at_call 38; exact Calls.later (cK.out _))))
        refine wpQuiet_nil ?_; intro x1 hw'; obtain ⟨xq, hw''⟩ := hw'; obtain ⟨xw0, h1⟩ := xq; change x1 = xw0 at hw''; subst hw''
        have HS2 := Lib.hid (HS.out.later h1)
        clear d0 d1 e0 e1 HS
        go_wp2
        obtain ⟨gx, hgx, _, hat⟩ := HS2.out.rowAt 0 rfl hn0
        cases hgx
        have d0 := (hat _).1 _ cx.1
        have d1 := (hat _).1 _ cx.2
        have e0 := (hat _).1 _ cy.1
        have e1 := (hat _).1 _ cy.2
        have u0 := (hat ((m + 1) * 2)).2.1
        have u1 := (hat ((m + 1) * 2 + 1)).2.1
        have u2 := (hat (j * 2)).2.1
        have u3 := (hat (j * 2 + 1)).2.1
        have K := Lib.hid ((HS2.out.elem W.len 0 rfl (m + 1) (by have := HCL.out; omega) hn0 y).elem W.len 0 rfl j (by have := HCL.out; rw [List.length_set]; omega) hn0 x)
        clear hat
        go_region
        all_goals
          go_wp2
          go_roundg j
          case measure => omega
          case rel => exact ⟨(cur.set (m + 1) y).set j x, by omega, rfl, HR', Lib.hid (by simp [HCL.out]), Lib.hid (by rw [List.getElem?_set, if_pos rfl, if_pos (by rw [List.length_set, HCL.out]; omega)]), K.out.drew⟩
end Hp
end Go.Proofs.Ytakmfjnfkjdbfaa
