/-
  HeapSteps: heap.Right, Push and Pop answer as the reference does, for every heap and every element. Conditions: none.
-/
import Derived.Test.YtakmfjnfkjdbfaaHpW7
import Derived.Test.YtakmfjnfkjdbfaaParse
import Derived.Test.YtakmfjnfkjdbfaaParse3
import Derived.Test.YtakmfjnfkjdbfaaEq
import Derived.Test.YtakmfjnfkjdbfaaReach
namespace Go.Proofs.Ytakmfjnfkjdbfaa
open Go.ChangeShapes Go.WideShapes Go.ChangeAt Go.RowKit
set_option linter.unusedVariables false
namespace Hp

theorem neqW (x : W) (w : World) : (binOp .neq 24 (.agg #[.int .i64 x.id, .int .i64 x.wear]) (.agg #[.int .i64 x.id, .int .i64 x.wear])).run Try.prog w = .ok (.bool false) w := by
  obtain ⟨a, b⟩ := x
  exact run_neq_self _ _ w (by kernel_rfl)
theorem eqW (x : W) (w : World) : (binOp .eql 24 (.agg #[.int .i64 x.id, .int .i64 x.wear]) (.agg #[.int .i64 x.id, .int .i64 x.wear])).run Try.prog w = .ok (.bool true) w := by
  obtain ⟨a, b⟩ := x
  exact run_eql_self _ _ w (by kernel_rfl)
set_option maxHeartbeats 1600000 in
theorem equal_worn (A A' : Option Addr) (n c c' : Nat) (l : List W) (w : World) (hr : Rd w w.heap.size 2 A n (l.flatMap W.cells)) (hr' : Rd w w.heap.size 2 A' n (l.flatMap W.cells)) (hl : l.length = n) (hn : n ≤ 9223372036854775807) :
    Calls Try.prog 15 #[.slice A n c, .slice A' n c'] w (Ret w (.bool true)) := by
  have HR := Lib.hid hr
  have HR' := Lib.hid hr'
  have HL := Lib.hid hl
  clear hr hr' hl
  go_enter Try.func15, Try.ntmps15
  go_wp2
  go_loopg [13] n (fun g i wr => ∃ k : Nat, k ≤ n ∧ g = n - k ∧ i = .int .i64 k ∧ Below w.heap.size w wr)
  case atStart => exact ⟨0, Nat.zero_le _, rfl, rfl, Below.refl _ _⟩
  case round =>
    obtain ⟨k, hk, rfl, rfl, hB⟩ := hrel
    by_cases hlt : k < n
    · obtain ⟨b, off, rfl, hb, hc⟩ := HR.out.at_ W.len (by omega)
      obtain ⟨b', off', rfl, hb', hc'⟩ := HR'.out.at_ W.len (by omega)
      obtain ⟨y, hy⟩ : ∃ y, l[k]? = some y := ⟨_, List.getElem?_eq_getElem (by rw [HL.out]; exact hlt)⟩
      have d1 := W.facts hb hB hc hy
      have d2 := W.facts hb' hB hc' hy
      have E := neqW y
      have i0 : (0 : Int) ≤ (k : Int) := by omega
      have i1 : (k : Int) < (n : Int) := by omega
      clear hc hc' hy
      go_wp2
      go_quiet (fail)
      go_wp2
      generalize hxw : World.drewN wr _ = xw
      have xh : Below wr.heap.size wr xw := by rw [← hxw]; exact below_drewN (Below.refl _ _) _
      clear hxw
      go_roundg (n - (k + 1))
      case measure => omega
      case rel => exact ⟨k + 1, by omega, rfl, by go_num, hB.trans (xh.mono hB.size)⟩
    · go_wp2
      go_ret
      exact Ret.mk rfl hB

theorem push_all (l : List W) (x : W) (n c : Nat) (A : Option Addr) (hl : l.length = n) (hn : n * 16 ≤ 140737488355328) : ∃ (out : List W) (e : Int), out.length ≤ 4096 ∧
    ∀ w, Rd w w.heap.size 2 A n (l.flatMap W.cells) → Calls Try.prog 9 #[.slice A n c, .agg #[.int .i64 x.id, .int .i64 x.wear]] w (PushRet w out e) ∧
      Calls Try.prog 10 #[.slice A n c, .agg #[.int .i64 x.id, .int .i64 x.wear]] w (PushRet w out e) := by
  by_cases hrt : Rt l
  · by_cases hbig : 4096 ≤ n
    · exact ⟨[], 4, by simp, fun w hr => ⟨push_full A n c l x w hr hl hn hrt hbig, fpush_full A n c l x w hr hl hn hrt hbig⟩⟩
    · obtain ⟨lf, hu, hlf⟩ := up_ex x n n (l ++ [x]) (Nat.le_refl _) (by rw [List.length_append, hl]; simp)
      have hlf' : lf.length = n + 1 := by rw [hlf, List.length_append, hl]; rfl
      exact ⟨lf, 0, by omega, fun w hr => ⟨push_any A n c l lf x w hr hl (by omega) hrt hu hlf', fpush_any A n c l lf x w hr hl (by omega) hrt hu hlf'⟩⟩
  · exact ⟨[], 1, by simp, fun w hr => ⟨push_bad A n c l x w hr hl hn hrt, fpush_bad A n c l x w hr hl hn hrt⟩⟩
theorem pop_all (l : List W) (n c : Nat) (A : Option Addr) (hl : l.length = n) (hc : n ≤ c) (hn : n * 16 ≤ 140737488355328) : ∃ (out : List W) (x : W) (e : Int), out.length ≤ n ∧
    ∀ w, Rd w w.heap.size 2 A n (l.flatMap W.cells) → Calls Try.prog 11 #[.slice A n c] w (PopRet w out x e) ∧ Calls Try.prog 12 #[.slice A n c] w (PopRet w out x e) := by
  by_cases hrt : Rt l
  · cases n with
    | zero => exact ⟨[], .zero, 3, by simp, fun w hr => ⟨pop_none A c w, fpop_none A c w⟩⟩
    | succ m =>
      obtain ⟨x, hx⟩ : ∃ x, l[0]? = some x := ⟨_, List.getElem?_eq_getElem (by omega)⟩
      obtain ⟨y, hy⟩ : ∃ y, l[m]? = some y := ⟨_, List.getElem?_eq_getElem (by omega)⟩
      have hdl : ((l.set 0 y).take m).length = m := by rw [List.length_take, List.length_set, hl]; omega
      obtain ⟨lf, hd, hlf⟩ := down_ex m 0 ((l.set 0 y).take m) (by omega)
      rw [hdl] at hlf
      rcases Nat.eq_zero_or_pos m with h0 | h0
      · subst h0
        obtain rfl : lf = [] := List.eq_nil_of_length_eq_zero hlf
        exact ⟨[], x, 0, by simp, fun w hr => ⟨pop_any A 0 c l [] x y w hr hl hn hrt hx hy hd rfl, fpop_one A c l x w hr hl hrt hx⟩⟩
      · exact ⟨lf, x, 0, by omega, fun w hr => ⟨pop_any A m c l lf x y w hr hl hn hrt hx hy hd hlf, fpop_any A m c l lf x y w hr hl hc h0 hn hrt hx hy hd hlf⟩⟩
  · exact ⟨[], .zero, 1, by simp, fun w hr => ⟨pop_bad A n c l w hr hl hn hrt, fpop_bad A n c l w hr hl hn hrt⟩⟩
theorem right_both (l : List W) (n c : Nat) (A : Option Addr) (hl : l.length = n) (hn : n * 16 ≤ 140737488355328) : ∃ b : Bool, ∀ w, Rd w w.heap.size 2 A n (l.flatMap W.cells) → Calls Try.prog 13 #[.slice A n c] w (Ret w (.bool b)) ∧ Calls Try.prog 14 #[.slice A n c] w (Ret w (.bool b)) := by
  by_cases hrt : Rt l
  · exact ⟨true, fun w hr => ⟨right_is A n c l true w hr hl hn (rt_true hrt), fright_is A n c l true w hr hl hn (rt_true hrt)⟩⟩
  · exact ⟨false, fun w hr => ⟨right_is A n c l false w hr hl hn (rt_false hrt), fright_is A n c l false w hr hl hn (rt_false hrt)⟩⟩

set_option maxRecDepth 100000 in
set_option maxHeartbeats 3200000 in
theorem heapSteps_walk (A : Option Addr) (n c : Nat) (l : List W) (x : W) (w : World) (hr : Rd w w.heap.size 2 A n (l.flatMap W.cells)) (hl : l.length = n) (hc : n ≤ c) (hn : n * 16 ≤ 140737488355328) :
    Calls Try.prog 3 #[.slice A n c, .agg #[.int .i64 x.id, .int .i64 x.wear]] w (Ret w (.bool true)) := by
  obtain ⟨o1, e1, hlo1, hP⟩ := push_all l x n c A hl hn
  obtain ⟨o2, u, e2, hlo2, hQ⟩ := pop_all l n c A hl hc hn
  obtain ⟨rb, hR⟩ := right_both l n c A hl hn
  have cP := Lib.hid (fun W (hW : Below w.heap.size w W) => hP W (hr.later hW))
  have cQ := Lib.hid (fun W (hW : Below w.heap.size w W) => hQ W (hr.later hW))
  have cR := Lib.hid (fun W (hW : Below w.heap.size w W) => hR W (hr.later hW))
  have E := eqW u
  clear hP hQ hR hr hl
  have S0 : Hid (Sep w (w.alloc (.cells #[.int .i64 x.id, .int .i64 x.wear] 24)) [.cells w.heap.size 24 x.cells]) := Lib.hid ((Sep.nil_ w).new 24 x.cells)
  go_enter Try.func3, Try.ntmps3
  go_wp2_with fail
  refine (cP.out _ S0.out.below).1.mono ?_; rintro en w1 ⟨A1, c1, hc1, rfl, K⟩
  have S1 := Lib.hid (S0.out.join K)
  have d0 := S1.out.cell 0 rfl (k := 0) rfl
  have d1 := S1.out.cell 0 rfl (k := 1) rfl
  clear K S0
  go_wp2_with fail
  refine (cP.out _ S1.out.below).2.mono ?_; rintro en w2 ⟨A2, c2, hc2, rfl, K⟩
  have S2 := Lib.hid (S1.out.join K)
  clear K S1 d0 d1
  go_wp2_with fail
  refine (cQ.out _ S2.out.below).1.mono ?_; rintro en w3 ⟨A3, c3, hc3, rfl, K⟩
  have S3 : Hid (Sep w (w3.alloc (.cells #[.int .i64 u.id, .int .i64 u.wear] 24)) [.row 24 2 (.slice A1 o1.length c1) o1.length (o1.flatMap W.cells), .row 24 2 (.slice A2 o1.length c2) o1.length (o1.flatMap W.cells), .row 24 2 (.slice A3 o2.length c3) o2.length (o2.flatMap W.cells), .cells w3.heap.size 24 u.cells]) := Lib.hid (((S2.out.join K).new 24 u.cells).pick [1, 2, 3, 4] (by decide) (by simp))
  clear K S2
  go_wp2_with fail
  refine (cQ.out _ S3.out.below).2.mono ?_; rintro en w4 ⟨A4, c4, hc4, rfl, K⟩
  have S4 : Hid (Sep w (w4.alloc (.cells #[.int .i64 u.id, .int .i64 u.wear] 24)) [.row 24 2 (.slice A1 o1.length c1) o1.length (o1.flatMap W.cells), .row 24 2 (.slice A2 o1.length c2) o1.length (o1.flatMap W.cells), .row 24 2 (.slice A3 o2.length c3) o2.length (o2.flatMap W.cells), .row 24 2 (.slice A4 o2.length c4) o2.length (o2.flatMap W.cells), .cells w3.heap.size 24 u.cells, .cells w4.heap.size 24 u.cells]) := Lib.hid (((S3.out.join K).new 24 u.cells).pick [0, 1, 2, 4, 3, 5] (by decide) (by simp))
  clear K S3 cP cQ
  go_wp2_with fail
  generalize w4.alloc (.cells #[.int .i64 u.id, .int .i64 u.wear] 24) = w5 at S4 ⊢
  generalize w3.heap.size = g3 at S4 ⊢
  generalize w4.heap.size = g4 at S4 ⊢
  refine (cR.out _ S4.out.below).1.mono ?_; rintro en w6 ⟨rfl, hb⟩
  have S6 := Lib.hid (S4.out.later hb)
  clear hb S4
  go_wp2_with fail
  refine (cR.out _ S6.out.below).2.mono ?_; rintro en w7 ⟨rfl, hb⟩
  have S7 := Lib.hid (S6.out.later hb)
  clear hb S6 cR
  have e1 := Lib.hid (equal_worn A1 A2 o1.length c1 c2 o1 w7 (S7.out.rd 0 rfl) (S7.out.rd 1 rfl) rfl (by omega))
  cases rb
  all_goals
    go_wp2_with fail
    refine e1.out.mono ?_; rintro en w8 ⟨rfl, hb⟩
    have S8 := Lib.hid (S7.out.later hb)
    have d0 := S8.out.cell 4 rfl (k := 0) rfl
    have d1 := S8.out.cell 4 rfl (k := 1) rfl
    have f0 := S8.out.cell 5 rfl (k := 0) rfl
    have f1 := S8.out.cell 5 rfl (k := 1) rfl
    have e3 := Lib.hid (equal_worn A3 A4 o2.length c3 c4 o2 w8 (S8.out.rd 2 rfl) (S8.out.rd 3 rfl) rfl (by omega))
    clear hb S7 e1
    go_wp2_with fail
    refine e3.out.mono ?_; rintro en w9 ⟨rfl, hb⟩
    have S9 := Lib.hid (S8.out.later hb)
    clear hb S8 e3
    go_wp2
    go_ret
    exact Ret.mk rfl S9.out.below

theorem worn_cells : Try.prog.cellsOf 24 = 2 := by kernel_rfl
theorem worn_bytes : Try.prog.bytesOf 24 = 16 := by kernel_rfl
theorem worn_parse {H : Type} {enc : TypeId × Value → H} {w : World} {base : Nat} {spare : Nat → Bool} {held : Bool} (n : Nat) (cs : List Value) (y : DataW H × List MemPlace)
    (h : DataW.trod enc Try.prog w base spare held n 24 cs = some y) : ∃ x : W, cs = x.cells ∧ True := by
  obtain ⟨hl, m, hf⟩ := parse_fields Try.underlying24 (by kernel_rfl) (by kernel_rfl) h
  obtain ⟨v0, z0, e0, t0⟩ := hf 0 _ rfl
  obtain ⟨v1, z1, e1, t1⟩ := hf 1 _ rfl
  obtain ⟨a, rfl, _⟩ := parse_int Try.underlying3 t0
  obtain ⟨b, rfl, _⟩ := parse_int Try.underlying3 t1
  match cs, hl with
  | [c0, c1], _ =>
    simp at e0 e1
    subst e0 e1
    exact ⟨⟨a, b⟩, rfl, trivial⟩

set_option maxRecDepth 100000 in
set_option maxHeartbeats 400000 in
theorem heapSteps_lifted (os : Os) (started : os.Started) (H : Type) (enc : TypeId × Value → H) :
    ReturnsInHanded {} Try.checked os 3 .any (Rows.heapStepsSpec.pre6 enc Try.prog Try.f3 Rows.heapStepsRow.domain false)
      (Rows.heapStepsSpec.post enc Try.prog Try.f3 false true false false) := by
  refine returnsInHanded_of_change_sized (C := Try.checked) own started (by kernel_rfl) Try.func3
    (ChangeSpec.witness6 (enc := enc) (C := Try.checked) false ⟨#[], #[.slice none 0 0, .agg #[.int .i64 0, .int .i64 0]], []⟩ 8 (by kernel_rfl) (by kernel_rfl) (by kernel_rfl) (by kernel_rfl)) ?_
  intro W base args ds gs before hval0 hW hcnd hsz0 _
  have hval : ∀ (j : Nat) t v, Try.f3.params[j]? = some t → args[j]? = some v → Value.okWide Try.prog W .any base t v := hval0
  have hsz : (DataW.weightsEach Try.prog (Try.f3.params.toList ++ Rows.heapStepsSpec.plain.varTypes Try.prog) (ds ++ gs)).all (· ≤ reachBytes) = true := hsz0
  have hW0 := hW
  obtain ⟨p, q, hA0, hV, _, _, _⟩ := hW
  have hA : DataW.TrodAll enc Try.prog W 0 (fun _ => true) true Try.f3.params.toList args.toList ds p := hA0
  rw [Try.params3] at hA hval hsz
  obtain ⟨v0, vs0, d0, ds0, p0, q0, hargs, rfl, rfl, h0, r0⟩ := trodAll_cons hA
  obtain ⟨v1, vs1, d1, ds1, p1, q1, rfl, rfl, rfl, h1, r1⟩ := trodAll_cons r0
  obtain ⟨rfl, rfl, rfl⟩ := trodAll_nil r1
  obtain rfl : args = #[v0, v1] := by cases args; simp_all
  obtain ⟨fu0, hf0⟩ := h0
  obtain ⟨fu1, hf1⟩ := h1
  obtain ⟨A, n, cap, l, hcs, hl, hnc, hcm, _, hrd, _, hd⟩ := open_list Hp.W.cells (fun _ => True) Try.underlying22 worn_cells Hp.W.len (by omega) worn_parse hf0
  obtain rfl := slice_of hcs (okWide_slice Try.underlying22 (hval 0 _ v0 rfl rfl))
  obtain ⟨x, hx, _⟩ := worn_parse _ _ _ hf1
  obtain rfl : v1 = .agg x.cells.toArray := agg_of Try.underlying24 (hval 1 _ v1 rfl rfl) hx
  have hn := reach_of hsz (j := 0) rfl rfl Try.underlying22 worn_bytes hd
  refine (heapSteps_walk A n cap l x W hrd hl hnc (by omega)).mono fun e W' ⟨he, hg⟩ => ⟨_, he, ?_⟩
  exact law_post laidOut Try.underlying4 rfl rfl (by kernel_rfl) (fun xs hx => by
    match xs, hx with
    | [_, _], _ => rfl) hW0 hg
theorem heapSteps_over : Rows.heapStepsRow.holds Try.pinned (OpenSpec.ofChange Rows.heapStepsSpec) :=
  OpenClaim.holds_of_wide 3 Try.f3 rfl rfl rfl rfl rfl rfl rfl ⟨rfl, rfl, rfl, rfl, rfl⟩ rfl rfl rfl rfl rfl (by kernel_rfl) Try.func3 (by kernel_rfl)
    (of_decide_eq_true (by kernel_rfl)) (by unfold Func.isWrapper; first | (rw [if_pos (by decide +kernel)]; kernel_rfl) | (rw [if_neg (by decide +kernel)]; exact ⟨rfl, rfl⟩))
    (fun os started H enc _ => heapSteps_lifted os started H enc)
theorem heapSteps_holds : Rows.HeapStepsSaid := heapSteps_over
end Hp
theorem heapSteps_holds : Rows.HeapStepsSaid := Hp.heapSteps_holds
end Go.Proofs.Ytakmfjnfkjdbfaa
