/-
  NandSteps: nand.New, Right and Step answer as the reference does, for every flash and every operation. Conditions: none.
-/
import Derived.Test.YtmbkonhclniolaaNdW6
import Derived.Test.YtmbkonhclniolaaHead
import Derived.Test.YtmbkonhclniolaaParse2
import Derived.Test.YtmbkonhclniolaaParse3
import Derived.Test.YtmbkonhclniolaaEq
import Derived.Test.YtmbkonhclniolaaRowG
namespace Go.Proofs.Ytmbkonhclniolaa
open Go.ChangeShapes Go.WideShapes Go.ChangeAt Go.RowKit
set_option linter.unusedVariables false
namespace Nd

theorem neqB (x : B) (w : World) : (binOp .neq 31 (.agg #[.int .i64 x.a, .int .i64 x.b, .int .i64 x.c, .int .i64 x.d, .int .i64 x.done, .int .i64 x.wear]) (.agg #[.int .i64 x.a, .int .i64 x.b, .int .i64 x.c, .int .i64 x.d, .int .i64 x.done, .int .i64 x.wear])).run Try.prog w = .ok (.bool false) w := by
  obtain ⟨a, b, c, d, e, f⟩ := x
  exact run_neq_self _ _ w (by kernel_rfl)
set_option maxHeartbeats 1600000 in
theorem equal_blocks (A A' : Option Addr) (n c c' : Nat) (l : List B) (w : World) (hr : Rd w w.heap.size 6 A n (l.flatMap B.cells)) (hr' : Rd w w.heap.size 6 A' n (l.flatMap B.cells)) (hl : l.length = n) (hn : n ≤ 9223372036854775807) :
    Calls Try.prog 11 #[.slice A n c, .slice A' n c'] w (Ret w (.bool true)) := by
  have HR := Lib.hid hr
  have HR' := Lib.hid hr'
  have HL := Lib.hid hl
  clear hr hr' hl
  go_enter Try.func11, Try.ntmps11
  go_wp2
  go_loopg [13] n (fun g i wr => ∃ k : Nat, k ≤ n ∧ g = n - k ∧ i = .int .i64 k ∧ Below w.heap.size w wr)
  case atStart => exact ⟨0, Nat.zero_le _, rfl, rfl, Below.refl _ _⟩
  case round =>
    obtain ⟨k, hk, rfl, rfl, hB⟩ := hrel
    by_cases hlt : k < n
    · obtain ⟨b, off, rfl, hb, hc⟩ := HR.out.at_ B.len (by omega)
      obtain ⟨b', off', rfl, hb', hc'⟩ := HR'.out.at_ B.len (by omega)
      obtain ⟨y, hy⟩ : ∃ y, l[k]? = some y := ⟨_, List.getElem?_eq_getElem (by rw [HL.out]; exact hlt)⟩
      have d1 := B.facts hb hB hc hy
      have d2 := B.facts hb' hB hc' hy
      have E := neqB y
      have i0 : (0 : Int) ≤ (k : Int) := by omega
      have i1 : (k : Int) < (n : Int) := by omega
      clear hc hc' hy
      go_wp2
      go_quiet (fail)
      go_wp2
      generalize hxw : World.drewN wr _ = xw
      have xh : Below wr.heap.size wr xw := by rw [← hxw]; exact below_drewN (Below.refl _ _) _
      clear hxw
      go_roundg (n - (k + 1))
      case measure => omega
      case rel => exact ⟨k + 1, by omega, rfl, by go_num, hB.trans (xh.mono hB.size)⟩
    · go_wp2
      go_ret
      exact Ret.mk rfl hB

theorem step_all (l : List B) (o : Op) (n c : Nat) (A : Option Addr) (hl : l.length = n) (hn : n ≤ 9223372036854775807) : ∃ (out : List B) (m e : Int), out.length ≤ 8 ∧
    ∀ w, Rd w w.heap.size 6 A n (l.flatMap B.cells) → Calls Try.prog 9 #[.slice A n c, .agg #[.int .i64 o.kind, .int .i64 o.block, .int .i64 o.page, .int .i64 o.data]] w (StepRet w out m e) ∧
      Calls Try.prog 10 #[.slice A n c, .agg #[.int .i64 o.kind, .int .i64 o.block, .int .i64 o.page, .int .i64 o.data]] w (StepRet w out m e) := by
  by_cases hrt : Rt l
  · obtain rfl : n = 8 := by rw [← hl]; exact hrt.1
    obtain ⟨out, m, e, hw, _, _⟩ := way_ex hrt o
    by_cases he : e = 0
    · subst he
      exact ⟨out, m, 0, by rw [way_len hrt hw]; omega, fun w hr => ⟨step_yes A c l out o m w hr hrt hw, dstep_yes A c l out o m w hr hrt hw⟩⟩
    · refine ⟨out, m, e, ?_, fun w hr => ⟨step_no A c l out o m e w hr hrt hw he, dstep_no A c l out o m e w hr hrt hw he⟩⟩
      rw [(way_rt hw he).1]
      simp
  · exact ⟨[], 0, 1, by simp, fun w hr => ⟨step_bad A n c l o w hr hl hn hrt, dstep_bad A n c l o w hr hl hn hrt⟩⟩
theorem right_both (l : List B) (n c : Nat) (A : Option Addr) (hl : l.length = n) (hn : n ≤ 9223372036854775807) : ∃ b : Bool, ∀ w, Rd w w.heap.size 6 A n (l.flatMap B.cells) → Calls Try.prog 13 #[.slice A n c] w (Ret w (.bool b)) ∧ Calls Try.prog 14 #[.slice A n c] w (Ret w (.bool b)) := by
  by_cases hrt : Rt l
  · exact ⟨true, fun w hr => ⟨right_any A n c l true w hr hl hn (rt_true hrt), dright_any A n c l true w hr hl hn (rt_true hrt)⟩⟩
  · exact ⟨false, fun w hr => ⟨right_any A n c l false w hr hl hn (rt_false hrt), dright_any A n c l false w hr hl hn (rt_false hrt)⟩⟩

/-- v is a new flash -/
def NewAt (v : Value) (w : World) : Prop := ∃ A c, v = .slice A 8 c ∧ Rd w w.heap.size 6 A 8 (new8.flatMap B.cells)
theorem NewAt.later {v : Value} {w w' : World} (h : NewAt v w) (hb : Below w.heap.size w w') : NewAt v w' := by
  obtain ⟨A, c, e, hr⟩ := h
  exact ⟨A, c, e, hr.later hb⟩
set_option maxRecDepth 100000 in
set_option maxHeartbeats 3200000 in
theorem nandSteps_walk (A : Option Addr) (n c : Nat) (l : List B) (o : Op) (w : World) (hr : Rd w w.heap.size 6 A n (l.flatMap B.cells)) (hl : l.length = n) (hn : n ≤ 9223372036854775807) :
    Calls Try.prog 3 #[.slice A n c, .agg #[.int .i64 o.kind, .int .i64 o.block, .int .i64 o.page, .int .i64 o.data]] w (Ret w (.bool true)) := by
  obtain ⟨out, m, e, hlo, hS⟩ := step_all l o n c A hl hn
  obtain ⟨rb, hR⟩ := right_both l n c A hl hn
  have cS := Lib.hid (fun W (hW : Below w.heap.size w W) => hS W (hr.later hW))
  have cR := Lib.hid (fun W (hW : Below w.heap.size w W) => hR W (hr.later hW))
  obtain ⟨M, hM, hmk⟩ := make_blocks
  have HM := Lib.hid hM
  clear hS hR hr hl hM
  have S0 : Hid (Sep w (w.alloc (.cells #[.int .i64 o.kind, .int .i64 o.block, .int .i64 o.page, .int .i64 o.data] 24)) [.cells w.heap.size 24 o.cells]) := Lib.hid ((Sep.nil_ w).new 24 o.cells)
  go_enter Try.func3, Try.ntmps3
  go_wp2_with fail
  refine (cS.out _ S0.out.below).1.mono ?_; rintro en w1 ⟨A1, c1, hc1, rfl, K⟩
  have S1 := Lib.hid (S0.out.join K)
  have d0 := S1.out.cell 0 rfl (k := 0) rfl
  have d1 := S1.out.cell 0 rfl (k := 1) rfl
  have d2 := S1.out.cell 0 rfl (k := 2) rfl
  have d3 := S1.out.cell 0 rfl (k := 3) rfl
  clear K S0
  go_wp2_with fail
  refine (cS.out _ S1.out.below).2.mono ?_; rintro en w2 ⟨A2, c2, hc2, rfl, K⟩
  have S2 := Lib.hid (S1.out.join K)
  clear K S1 d0 d1 d2 d3
  obtain ⟨lo, hge⟩ : ∃ lo, lo = out.length := ⟨_, rfl⟩
  rw [← hge] at S2 hlo ⊢
  have HLO := Lib.hid hge.symm
  clear hge hc1 hc2
  have cN := Lib.hid (fun W => new_any W)
  have hM1 := (Sep.nil_ w2).newRow 31 6 8 M (by rw [HM.out]; rfl) (by simp [maxLen])
  clear hM1
  go_upto_region 3 with (fail)
  refine wp_region_head0 3 (fun a0 L a w' => ∃ x25 x26, a = turn a0 [(25, x25), (26, x26)] ∧ (L 0 = true → NewAt x25 w') ∧ (L 1 = true → NewAt x26 w') ∧ Below w2.heap.size w2 w')
    (fun a0 a w' => ∃ x25 x26, a = turn a0 [(25, x25), (26, x26), (27, .bool true)] ∧ Below w2.heap.size w2 w') (by kernel_rfl) (by kernel_rfl) (by kernel_rfl) (by kernel_rfl) ?_ ?_ ?_ ?_
  · simp only [turn, List.foldl_cons, List.foldl_nil, List.setIfInBounds_toArray, List.set_cons_succ, List.set_cons_zero]
    exact ⟨_, _, rfl, fun h => absurd h (by decide), fun h => absurd h (by decide), (Below.refl _ _).drew⟩
  · rintro L a w' i o hi3 ⟨x25, x26, ha, p0, p1, hB⟩ ho hi he
    simp only [turn, List.foldl_cons, List.foldl_nil, List.setIfInBounds_toArray, List.set_cons_succ, List.set_cons_zero] at ha ⊢
    subst ha
    rcases i with _|_|i
    · cases ho
      refine wpOp_step rfl (fun K hK => ?_)
      go_simp
      refine (cN.out _).mono ?_
      rintro en w5 ⟨A5, c5, hc5, rfl, K5⟩
      exact hK _ _ ⟨_, _, rfl, fun _ => ⟨A5, c5, rfl, K5.rd 0 rfl⟩, fun h => (p1 (by simpa using h)).later K5.below, hB.trans (K5.below.mono hB.size)⟩
    · cases ho
      refine wpOp_step rfl (fun K hK => ?_)
      go_simp
      try simp only [hmk]
      try go_simp
      have K5 := (Sep.nil_ w').newRow 31 6 8 M (by rw [HM.out]; rfl) (by simp [maxLen])
      exact hK _ _ ⟨_, _, rfl, fun h => (p0 (by simpa using h)).later K5.below, fun _ => ⟨_, 8, rfl, by rw [← HM.out]; exact K5.rd 0 rfl⟩, hB.trans (K5.below.mono hB.size)⟩
    · omega
  · rintro L a w' o ⟨x25, x26, ha, p0, p1, hB⟩ ho hall
    obtain ⟨A5, c5, rfl, r5⟩ := p0 (hall 0 (by omega))
    obtain ⟨A6, c6, rfl, r6⟩ := p1 (hall 1 (by omega))
    simp only [turn, List.foldl_cons, List.foldl_nil, List.setIfInBounds_toArray, List.set_cons_succ, List.set_cons_zero] at ha ⊢
    subst ha
    cases ho
    refine wpOp_step rfl (fun K hK => ?_)
    go_simp
    refine (equal_blocks A5 A6 8 c5 c6 new8 w' r5 r6 rfl (by omega)).mono ?_
    rintro en w5 ⟨rfl, hb5⟩
    exact hK _ _ ⟨_, _, rfl, hB.trans (hb5.mono hB.size)⟩
  · rintro a1 wh ⟨x25, x26, ha, hB⟩
    have S3 := Lib.hid (S2.out.later hB)
    have cR13 := Lib.hid (fun x : LaterOf wh => (cR.out x.w ((S2.out.later hB).later x.h).below).1)
    have cR14 := Lib.hid (fun x : LaterOf wh => (cR.out x.w ((S2.out.later hB).later x.h).below).2)
    have cE := Lib.hid (fun x : LaterOf wh => equal_blocks A1 A2 lo c1 c2 out x.w ((S3.out.later x.h).rd 1 rfl) ((S3.out.later x.h).rd 2 rfl) HLO.out (by omega))
    refine ⟨fun w' => ∃ x : LaterOf wh, w' = x.w, ⟨⟨wh, Below.refl _ _⟩, rfl⟩, ?_⟩
    clear cS cR cN hmk S2 HM hB
    simp only [turn, List.foldl_cons, List.foldl_nil, List.setIfInBounds_toArray, List.set_cons_succ, List.set_cons_zero] at ha ⊢
    subst ha
    simp only [List.drop_succ_cons, List.drop_zero]
    cases rb
    all_goals
      repeat (go_big_quiet_step ((first | (go_at_call 13; exact Calls.later (cR13.out _)) | (go_at_call 14; exact Calls.later (cR14.out _)) | (go_at_call 11; exact Calls.later (cE.out _)))))
      refine wpQuiet_nil ?_; intro xw hw'; obtain ⟨xq, hw''⟩ := hw'; obtain ⟨xw0, xh⟩ := xq; change xw = xw0 at hw''; subst hw''
      go_wp2
      go_ret
      exact Ret.mk rfl (S3.out.later xh).below

theorem block_cells : Try.prog.cellsOf 31 = 6 := by kernel_rfl
theorem arr4_cells : Try.prog.cellsOf 29 = 4 * 1 := by kernel_rfl
theorem int_cells : Try.prog.cellsOf 3 = 1 := by kernel_rfl
theorem int_parse {H : Type} {enc : TypeId × Value → H} {w : World} {base : Nat} {spare : Nat → Bool} {held : Bool} (m : Nat) (cs : List Value) (y : DataW H × List MemPlace)
    (h : DataW.trod enc Try.prog w base spare held m 3 cs = some y) : ∃ x : Int, cs = icell x ∧ True := by
  obtain ⟨n, hn, _, _⟩ := DataW.trod_int Try.underlying3 h
  exact ⟨n, hn, trivial⟩
set_option maxRecDepth 100000 in
theorem block_parse {H : Type} {enc : TypeId × Value → H} {w : World} {base : Nat} {spare : Nat → Bool} {held : Bool} (n : Nat) (cs : List Value) (y : DataW H × List MemPlace)
    (h : DataW.trod enc Try.prog w base spare held n 31 cs = some y) : ∃ x : B, cs = x.cells ∧ True := by
  obtain ⟨hl, m, hf⟩ := parse_field Try.underlying31 h
  rw [block_cells] at hl
  obtain ⟨z0, t0⟩ := hf 0 _ rfl
  obtain ⟨z1, t1⟩ := hf 1 _ rfl
  obtain ⟨z2, t2⟩ := hf 2 _ rfl
  match cs, hl with
  | [c0, c1, c2, c3, c4, c5], _ =>
    obtain ⟨l, hl4, hc4, _⟩ := parse_array icell (fun _ => True) Try.underlying29 int_cells arr4_cells icell_len int_parse t0
    obtain ⟨d, hd, _⟩ := int_parse _ _ _ t1
    obtain ⟨e, he, _⟩ := int_parse _ _ _ t2
    match l, hl4 with
    | [x0, x1, x2, x3], _ =>
      have h4 : Try.prog.cellsOf 29 = 4 := arr4_cells
      have h1 : Try.prog.cellsOf 3 = 1 := int_cells
      simp [icell, h4, h1] at hc4 hd he
      obtain ⟨rfl, rfl, rfl, rfl⟩ := hc4
      subst hd he
      exact ⟨⟨x0, x1, x2, x3, d, e⟩, rfl, trivial⟩
theorem op_cells : Try.prog.cellsOf 24 = 4 := by kernel_rfl
theorem op_bytes : Try.prog.bytesOf 24 = 32 := by kernel_rfl
set_option maxRecDepth 100000 in
theorem op_parse {H : Type} {enc : TypeId × Value → H} {w : World} {base : Nat} {spare : Nat → Bool} {held : Bool} (n : Nat) (cs : List Value) (y : DataW H × List MemPlace)
    (h : DataW.trod enc Try.prog w base spare held n 24 cs = some y) : ∃ x : Op, cs = x.cells ∧ True := by
  obtain ⟨hl, m, hf⟩ := parse_fields Try.underlying24 (by kernel_rfl) (by kernel_rfl) h
  obtain ⟨v0, z0, e0, t0⟩ := hf 0 _ rfl
  obtain ⟨v1, z1, e1, t1⟩ := hf 1 _ rfl
  obtain ⟨v2, z2, e2, t2⟩ := hf 2 _ rfl
  obtain ⟨v3, z3, e3, t3⟩ := hf 3 _ rfl
  obtain ⟨a, rfl, _⟩ := parse_int Try.underlying3 t0
  obtain ⟨b, rfl, _⟩ := parse_int Try.underlying3 t1
  obtain ⟨c, rfl, _⟩ := parse_int Try.underlying3 t2
  obtain ⟨d, rfl, _⟩ := parse_int Try.underlying3 t3
  match cs, hl with
  | [c0, c1, c2, c3], _ =>
    simp at e0 e1 e2 e3
    subst e0 e1 e2 e3
    exact ⟨⟨a, b, c, d⟩, rfl, trivial⟩

set_option maxRecDepth 100000 in
set_option maxHeartbeats 400000 in
theorem nandSteps_lifted (os : Os) (started : os.Started) (H : Type) (enc : TypeId × Value → H) :
    ReturnsInHanded {} Try.checked os 3 .any (Rows.nandStepsSpec.pre6 enc Try.prog Try.f3 Rows.nandStepsRow.domain false)
      (Rows.nandStepsSpec.post enc Try.prog Try.f3 false true false false) := by
  refine returnsInHanded_of_change (C := Try.checked) own started (by kernel_rfl) Try.func3
    (ChangeSpec.witness6 (enc := enc) (C := Try.checked) false ⟨#[], #[.slice none 0 0, .agg #[.int .i64 0, .int .i64 0, .int .i64 0, .int .i64 0]], []⟩ 8 (by kernel_rfl) (by kernel_rfl) (by kernel_rfl) (by kernel_rfl)) ?_
  intro W base args ds gs before hval0 hW hcnd _
  have hval : ∀ (j : Nat) t v, Try.f3.params[j]? = some t → args[j]? = some v → Value.okWide Try.prog W .any base t v := hval0
  have hW0 := hW
  obtain ⟨p, q, hA0, hV, _, _, _⟩ := hW
  have hA : DataW.TrodAll enc Try.prog W 0 (fun _ => true) true Try.f3.params.toList args.toList ds p := hA0
  rw [Try.params3] at hA hval
  obtain ⟨v0, vs0, d0, ds0, p0, q0, hargs, rfl, rfl, h0, r0⟩ := trodAll_cons hA
  obtain ⟨v1, vs1, d1, ds1, p1, q1, rfl, rfl, rfl, h1, r1⟩ := trodAll_cons r0
  obtain ⟨rfl, rfl, rfl⟩ := trodAll_nil r1
  obtain rfl : args = #[v0, v1] := by cases args; simp_all
  obtain ⟨fu0, hf0⟩ := h0
  obtain ⟨fu1, hf1⟩ := h1
  obtain ⟨A, n, cap, l, hcs, hl, hnc, hcm, _, hrd, _, _⟩ := open_list B.cells (fun _ => True) Try.underlying22 block_cells B.len (by omega) block_parse hf0
  obtain rfl := slice_of hcs (okWide_slice Try.underlying22 (hval 0 _ v0 rfl rfl))
  obtain ⟨x, hx, _⟩ := op_parse _ _ _ hf1
  obtain rfl : v1 = .agg x.cells.toArray := agg_of Try.underlying24 (hval 1 _ v1 rfl rfl) hx
  unfold maxLen at hcm
  refine (nandSteps_walk A n cap l x W hrd hl (by omega)).mono fun e W' ⟨he, hg⟩ => ⟨_, he, ?_⟩
  exact law_post laidOut Try.underlying4 rfl rfl (by kernel_rfl) (fun xs hx => by
    match xs, hx with
    | [_, _], _ => rfl) hW0 hg
theorem nandSteps_over : Rows.nandStepsRow.holds Try.pinned (OpenSpec.ofChange Rows.nandStepsSpec) :=
  OpenClaim.holds_of_wide 3 Try.f3 rfl rfl rfl rfl rfl rfl rfl ⟨rfl, rfl, rfl, rfl, rfl⟩ rfl rfl rfl rfl rfl (by kernel_rfl) Try.func3 (by kernel_rfl)
    (of_decide_eq_true (by kernel_rfl)) (by unfold Func.isWrapper; first | (rw [if_pos (by decide +kernel)]; kernel_rfl) | (rw [if_neg (by decide +kernel)]; exact ⟨rfl, rfl⟩))
    (fun os started H enc _ => nandSteps_lifted os started H enc)
theorem nandSteps_holds : Rows.NandStepsSaid := nandSteps_over
end Nd
theorem nandSteps_holds : Rows.NandStepsSaid := Nd.nandSteps_holds
end Go.Proofs.Ytmbkonhclniolaa
