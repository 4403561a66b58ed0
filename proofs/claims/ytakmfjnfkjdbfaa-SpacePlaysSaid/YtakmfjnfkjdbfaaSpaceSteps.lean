/-
  SpaceSteps: space.Right and Step answer as the reference does, for every size, every list of gaps and every operation. Conditions: none.
-/
import Derived.Test.YtakmfjnfkjdbfaaSpS
import Derived.Test.YtakmfjnfkjdbfaaSpN
import Derived.Test.YtakmfjnfkjdbfaaParse
import Derived.Test.YtakmfjnfkjdbfaaParse3
import Derived.Test.YtakmfjnfkjdbfaaEq
import Derived.Test.YtakmfjnfkjdbfaaReach
namespace Go.Proofs.Ytakmfjnfkjdbfaa
open Go.ChangeShapes Go.WideShapes Go.ChangeAt Go.RowKit
set_option linter.unusedVariables false
namespace Sp

theorem neqG (x : G) (w : World) : (binOp .neq 50 (.agg #[.int .i64 x.at_, .int .i64 x.many]) (.agg #[.int .i64 x.at_, .int .i64 x.many])).run Try.prog w = .ok (.bool false) w := by
  obtain ⟨a, b⟩ := x
  exact run_neq_self _ _ w (by kernel_rfl)
theorem eqA (a b : Int) (w : World) : (binOp .eql 41 (.agg #[.int .i64 a, .int .i64 b]) (.agg #[.int .i64 a, .int .i64 b])).run Try.prog w = .ok (.bool true) w :=
  run_eql_self _ _ w (by kernel_rfl)
set_option maxHeartbeats 1600000 in
theorem equal_gaps0 (A A' : Option Addr) (n c c' : Nat) (l : List G) (w : World) (hr : Rd w w.heap.size 2 A n (l.flatMap G.cells)) (hr' : Rd w w.heap.size 2 A' n (l.flatMap G.cells)) (hl : l.length = n) (hn : n ≤ 9223372036854775807) :
    Calls Try.prog 24 #[.slice A n c, .slice A' n c'] w (Ret w (.bool true)) := by
  have HR := Lib.hid hr
  have HR' := Lib.hid hr'
  have HL := Lib.hid hl
  clear hr hr' hl
  go_enter Try.func24, Try.ntmps24
  go_wp2
  go_loopg [13] n (fun g i wr => ∃ k : Nat, k ≤ n ∧ g = n - k ∧ i = .int .i64 k ∧ Below w.heap.size w wr)
  case atStart => exact ⟨0, Nat.zero_le _, rfl, rfl, Below.refl _ _⟩
  case round =>
    obtain ⟨k, hk, rfl, rfl, hB⟩ := hrel
    by_cases hlt : k < n
    · obtain ⟨b, off, rfl, hb, hc⟩ := HR.out.at_ G.len (by omega)
      obtain ⟨b', off', rfl, hb', hc'⟩ := HR'.out.at_ G.len (by omega)
      obtain ⟨y, hy⟩ : ∃ y, l[k]? = some y := ⟨_, List.getElem?_eq_getElem (by rw [HL.out]; exact hlt)⟩
      have d1 := G.facts hb hB hc hy
      have d2 := G.facts hb' hB hc' hy
      have E := neqG y
      have i0 : (0 : Int) ≤ (k : Int) := by omega
      have i1 : (k : Int) < (n : Int) := by omega
      clear hc hc' hy
      go_wp2
      go_quiet (fail)
      go_wp2
      generalize hxw : World.drewN wr _ = xw
      have xh : Below wr.heap.size wr xw := by rw [← hxw]; exact below_drewN (Below.refl _ _) _
      clear hxw
      go_roundg (n - (k + 1))
      case measure => omega
      case rel => exact ⟨k + 1, by omega, rfl, by go_num, hB.trans (xh.mono hB.size)⟩
    · go_wp2
      go_ret
      exact Ret.mk rfl hB
theorem equal_gaps (A A' : Option Addr) (n c c' : Nat) (l : List N) (w : World) (hr : Rd w w.heap.size 2 A n (l.flatMap ncells)) (hr' : Rd w w.heap.size 2 A' n (l.flatMap ncells)) (hl : l.length = n) (hn : n ≤ 9223372036854775807) :
    Calls Try.prog 24 #[.slice A n c, .slice A' n c'] w (Ret w (.bool true)) :=
  equal_gaps0 A A' n c c' (l.map G.of) w (by rw [cells_of]; exact hr) (by rw [cells_of]; exact hr') (by simpa using hl) hn

theorem ok_takes {S m : Nat} {l : List N} {i : Nat} {x : N} {b : Bool} {n : Nat} (h : Ok S 0 l) (hm : 1 ≤ m) (hc : chAll m b l n = some (i, x)) : Ok S 0 (takeL l i m) := by
  obtain ⟨_, h2, h3⟩ := chAll_at hc
  exact (take_ok hm h3 l i 0 h h2).1
theorem stepL_ok {S : Nat} {l : List N} (h : Ok S 0 l) (k a m : Int) : Ok S 0 (stepL S l k a m).1 := by
  unfold stepL
  split
  · trivial
  split
  · trivial
  rename_i h1 h2
  split
  · split
    · trivial
    split
    · trivial
    rename_i h4 h5
    obtain ⟨a', ha'⟩ := Int.eq_ofNat_of_zero_le (show 0 ≤ a by omega)
    obtain ⟨m', hm'⟩ := Int.eq_ofNat_of_zero_le (show 0 ≤ m by omega)
    subst ha' hm'
    exact (give_law h (by omega) (by omega) (by simpa using h5)).1
  · obtain ⟨m', hm'⟩ := Int.eq_ofNat_of_zero_le (show 0 ≤ m by omega)
    subst hm'
    cases hc : chAll (m' : Int).toNat (k == 2) l l.length with
    | none => trivial
    | some p =>
      obtain ⟨i, x⟩ := p
      exact ok_takes h (by omega) hc
theorem step_both (A : Option Addr) (n c : Nat) (S kind at' many : Int) (l : List G) (hl : l.length = n) (hn : n ≤ 9223372036854775807) : ∃ res : List N × Int × Int, res.1.length ≤ 4096 ∧
    ∀ w, Rd w w.heap.size 2 A n (l.flatMap G.cells) → Calls Try.prog 20 #[.int .i64 S, .slice A n c, .agg #[.int .i64 kind, .int .i64 at', .int .i64 many]] w (StepRet w res) ∧
      Calls Try.prog 21 #[.int .i64 S, .slice A n c, .agg #[.int .i64 kind, .int .i64 at', .int .i64 many]] w (StepRet w res) := by
  by_cases h0 : S < 0 ∨ 4096 < S
  · exact ⟨([], 1, 0), by simp, fun w hr => ⟨step_bad A n c S kind at' many l w hr hl hn (by omega), nstep_out A n c S kind at' many w h0⟩⟩
  obtain ⟨S', hS'⟩ := Int.eq_ofNat_of_zero_le (show 0 ≤ S by omega)
  subst hS'
  cases hb : okG (S' : Int) (-1) l with
  | false => exact ⟨([], 1, 0), by simp, fun w hr => ⟨step_bad A n c S' kind at' many l w hr hl hn (.inr (.inr hb)), nstep_bad A n c S' kind at' many l w hr hl hn (by omega) hb⟩⟩
  | true =>
    obtain ⟨ln, hln, hok⟩ := okG_ok l 0 (by simpa using hb)
    refine ⟨stepL S' ln kind at' many, ?_, fun w hr => ⟨step_ok A n c S' kind at' many ln w (by rw [← cells_of, ← hln]; exact hr) (by rw [hln] at hl; simpa using hl) (by omega) hok, nstep_ok A n c S' kind at' many l ln w hr hl hn (by omega) hln hok⟩⟩
    have := ok_len _ 0 (stepL_ok hok kind at' many)
    omega

set_option maxRecDepth 100000 in
set_option maxHeartbeats 3200000 in
theorem spaceSteps_walk (A : Option Addr) (n c : Nat) (l : List G) (S kind at' many : Int) (w : World) (hr : Rd w w.heap.size 2 A n (l.flatMap G.cells)) (hl : l.length = n) (hn : n ≤ 9223372036854775807) :
    Calls Try.prog 5 #[.int .i64 S, .slice A n c, .agg #[.int .i64 kind, .int .i64 at', .int .i64 many]] w (Ret w (.bool true)) := by
  obtain ⟨res, hlen, hB⟩ := step_both A n c S kind at' many l hl hn
  have cS := Lib.hid (fun W (hW : Below w.heap.size w W) => (hB W (hr.later hW)).1)
  have cN := Lib.hid (fun W (hW : Below w.heap.size w W) => (hB W (hr.later hW)).2)
  have cR := Lib.hid (fun W (hW : Below w.heap.size w W) => nrow_any A n c 4096 l W (hr.later hW) hl hn (by omega))
  have cT := Lib.hid (fun b0 hb0 W (hW : Below w.heap.size w W) => right_is A n c l b0 W (hr.later hW) hl hn hb0)
  obtain ⟨pl, pe, pa⟩ := res
  have E := eqA pe pa
  clear hB hr hl
  simp only at hlen
  have S0 : Hid (Sep w (w.alloc (.cells #[.int .i64 kind, .int .i64 at', .int .i64 many] 39)) [.cells w.heap.size 39 [.int .i64 kind, .int .i64 at', .int .i64 many]]) := Lib.hid ((Sep.nil_ w).new 39 [.int .i64 kind, .int .i64 at', .int .i64 many])
  go_enter Try.func5, Try.ntmps5
  go_wp2_with fail
  refine (cS.out _ S0.out.below).mono ?_; rintro en w1 ⟨A1, c1, hc1, rfl, K⟩
  have S1 : Hid (Sep w (w1.alloc (.cells #[.int .i64 pe, .int .i64 pa] 41)) [.cells w.heap.size 39 [.int .i64 kind, .int .i64 at', .int .i64 many], .row 50 2 (.slice A1 pl.length c1) pl.length (pl.flatMap ncells), .cells w1.heap.size 41 [.int .i64 pe, .int .i64 pa]]) := Lib.hid ((S0.out.join K).new 41 [.int .i64 pe, .int .i64 pa])
  clear K S0 cS
  simp only
  go_upto_region 2 with (fail)
  generalize w1.alloc (.cells #[.int .i64 pe, .int .i64 pa] 41) = w2 at S1 ⊢
  generalize w1.heap.size = g1 at S1 ⊢
  generalize hgo : w.heap.size = go at S1 ⊢
  have d0 := S1.out.cell 0 rfl (k := 0) rfl
  have d1 := S1.out.cell 0 rfl (k := 1) rfl
  have d2 := S1.out.cell 0 rfl (k := 2) rfl
  go_wp2_with fail
  refine (cN.out _ S1.out.below).mono ?_; rintro en w3 ⟨A3, c3, hc3, rfl, K⟩
  have S3 : Hid (Sep w (w3.alloc (.cells #[.int .i64 pe, .int .i64 pa] 41)) [.cells g1 41 [.int .i64 pe, .int .i64 pa], .cells w3.heap.size 41 [.int .i64 pe, .int .i64 pa], .row 50 2 (.slice A1 pl.length c1) pl.length (pl.flatMap ncells), .row 50 2 (.slice A3 pl.length c3) pl.length (pl.flatMap ncells)]) := Lib.hid (((S1.out.join K).new 41 [.int .i64 pe, .int .i64 pa]).pick [2, 4, 1, 3] (by decide) (by simp))
  clear K S1 cN d0 d1 d2
  simp only
  go_upto_region 3 with (fail)
  generalize w3.alloc (.cells #[.int .i64 pe, .int .i64 pa] 41) = w4 at S3 ⊢
  generalize w3.heap.size = g3 at S3 ⊢
  have key : ∃ b0 v5, okG 4096 (-1) l = b0 ∧ Calls Try.prog 22 #[.int .i64 4096, .slice A n c] w4 (fun e w' => ∃ v, e = .returned (.tuple #[v, .bool b0]) ∧ Below w4.heap.size w4 w') ∧ v5 = b0 := by
    cases hb : okG 4096 (-1) l with
    | false => exact ⟨false, false, rfl, (cR.out w4 S3.out.below).mono (by
        rintro e w' (⟨_, rfl, hb'⟩ | ⟨ln, A', c', hln, hok, _⟩)
        · exact ⟨_, rfl, hb'⟩
        · exfalso
          have h1 := ok_okG ln 0 hok
          rw [← hln] at h1
          have h2 : okG 4096 (-1) l = true := by simpa using h1
          rw [hb] at h2
          cases h2), rfl⟩
    | true => exact ⟨true, true, rfl, (cR.out w4 S3.out.below).mono (by
        rintro e w' (⟨hb', _⟩ | ⟨ln, A', c', hln, hok, _, rfl, K⟩)
        · exfalso
          have hb'' : okG 4096 (-1) l = false := hb'
          rw [hb] at hb''
          cases hb''
        · exact ⟨_, rfl, K.below⟩), rfl⟩
  obtain ⟨b0, _, hb0, cR2, _⟩ := key
  have cR3 := Lib.hid cR2
  have cT2 := Lib.hid (cT.out b0 hb0)
  clear cR2 hb0 cT cR
  go_wp2_with fail
  refine cR3.out.mono ?_; rintro en w5 ⟨v, rfl, hb5⟩
  have S5 := Lib.hid (S3.out.later hb5)
  clear hb5 S3 cR3
  go_wp2_with fail
  refine (cT2.out _ S5.out.below).mono ?_; rintro en w6 ⟨rfl, hb6⟩
  have S6 := Lib.hid (S5.out.later hb6)
  clear hb6 S5 cT2
  have d0 := S6.out.cell 0 rfl (k := 0) rfl
  have d1 := S6.out.cell 0 rfl (k := 1) rfl
  have f0 := S6.out.cell 1 rfl (k := 0) rfl
  have f1 := S6.out.cell 1 rfl (k := 1) rfl
  have e1 := Lib.hid (equal_gaps A1 A3 pl.length c1 c3 pl w6 (S6.out.rd 2 rfl) (S6.out.rd 3 rfl) rfl (by omega))
  cases b0
  all_goals
    go_wp2_with fail
    refine e1.out.mono ?_; rintro en w8 ⟨rfl, hb⟩
    have S8 := Lib.hid (S6.out.later hb)
    clear hb S6 e1
    go_wp2
    go_ret
    exact Ret.mk rfl S8.out.below

theorem gap_cells : Try.prog.cellsOf 50 = 2 := by kernel_rfl
theorem gap_parse {H : Type} {enc : TypeId × Value → H} {w : World} {base : Nat} {spare : Nat → Bool} {held : Bool} (n : Nat) (cs : List Value) (y : DataW H × List MemPlace)
    (h : DataW.trod enc Try.prog w base spare held n 50 cs = some y) : ∃ x : G, cs = x.cells ∧ True := by
  obtain ⟨hl, m, hf⟩ := parse_fields Try.underlying50 (by kernel_rfl) (by kernel_rfl) h
  obtain ⟨v0, z0, e0, t0⟩ := hf 0 _ rfl
  obtain ⟨v1, z1, e1, t1⟩ := hf 1 _ rfl
  obtain ⟨a, rfl, _⟩ := parse_int Try.underlying3 t0
  obtain ⟨b, rfl, _⟩ := parse_int Try.underlying3 t1
  match cs, hl with
  | [c0, c1], _ =>
    simp at e0 e1
    subst e0 e1
    exact ⟨⟨a, b⟩, rfl, trivial⟩
/-- an operation -/
structure O where
  (kind at_ many : Int)
def O.cells (x : O) : List Value := [.int .i64 x.kind, .int .i64 x.at_, .int .i64 x.many]
theorem O.len : ∀ x : O, x.cells.length = 3 := fun _ => rfl
theorem o_parse {H : Type} {enc : TypeId × Value → H} {w : World} {base : Nat} {spare : Nat → Bool} {held : Bool} (n : Nat) (cs : List Value) (y : DataW H × List MemPlace)
    (h : DataW.trod enc Try.prog w base spare held n 39 cs = some y) : ∃ x : O, cs = x.cells ∧ True := by
  obtain ⟨hl, m, hf⟩ := parse_fields Try.underlying39 (by kernel_rfl) (by kernel_rfl) h
  obtain ⟨v0, z0, e0, t0⟩ := hf 0 _ rfl
  obtain ⟨v1, z1, e1, t1⟩ := hf 1 _ rfl
  obtain ⟨v2, z2, e2, t2⟩ := hf 2 _ rfl
  obtain ⟨a, rfl, _⟩ := parse_int Try.underlying3 t0
  obtain ⟨b, rfl, _⟩ := parse_int Try.underlying3 t1
  obtain ⟨c, rfl, _⟩ := parse_int Try.underlying3 t2
  match cs, hl with
  | [c0, c1, c2], _ =>
    simp at e0 e1 e2
    subst e0 e1 e2
    exact ⟨⟨a, b, c⟩, rfl, trivial⟩

set_option maxRecDepth 100000 in
set_option maxHeartbeats 400000 in
theorem spaceSteps_lifted (os : Os) (started : os.Started) (H : Type) (enc : TypeId × Value → H) :
    ReturnsInHanded {} Try.checked os 5 .any (Rows.spaceStepsSpec.pre6 enc Try.prog Try.f5 Rows.spaceStepsRow.domain false)
      (Rows.spaceStepsSpec.post enc Try.prog Try.f5 false true false false) := by
  refine returnsInHanded_of_change (C := Try.checked) own started (by kernel_rfl) Try.func5
    (ChangeSpec.witness6 (enc := enc) (C := Try.checked) false ⟨#[], #[.int .i64 0, .slice none 0 0, .agg #[.int .i64 0, .int .i64 0, .int .i64 0]], []⟩ 8 (by kernel_rfl) (by kernel_rfl) (by kernel_rfl) (by kernel_rfl)) ?_
  intro W base args ds gs before hval0 hW hcnd _
  have hval : ∀ (j : Nat) t v, Try.f5.params[j]? = some t → args[j]? = some v → Value.okWide Try.prog W .any base t v := hval0
  have hW0 := hW
  obtain ⟨p, q, hA0, hV, _, _, _⟩ := hW
  have hA : DataW.TrodAll enc Try.prog W 0 (fun _ => true) true Try.f5.params.toList args.toList ds p := hA0
  rw [Try.params5] at hA hval
  obtain ⟨v0, vs0, d0, ds0, p0, q0, hargs, rfl, rfl, h0, r0⟩ := trodAll_cons hA
  obtain ⟨v1, vs1, d1, ds1, p1, q1, rfl, rfl, rfl, h1, r1⟩ := trodAll_cons r0
  obtain ⟨v2, vs2, d2, ds2, p2, q2, rfl, rfl, rfl, h2, r2⟩ := trodAll_cons r1
  obtain ⟨rfl, rfl, rfl⟩ := trodAll_nil r2
  obtain rfl : args = #[v0, v1, v2] := by cases args; simp_all
  obtain ⟨fu1, hf1⟩ := h1
  obtain ⟨fu2, hf2⟩ := h2
  obtain ⟨S, rfl, rfl, rfl, _⟩ := open_int Try.underlying3 (hval 0 _ v0 rfl rfl) h0
  obtain ⟨A, n, cap, l, hcs, hl, hnc, hcm, _, hrd, _, hd⟩ := open_list G.cells (fun _ => True) Try.underlying37 gap_cells G.len (by omega) gap_parse hf1
  obtain rfl := slice_of hcs (okWide_slice Try.underlying37 (hval 1 _ v1 rfl rfl))
  obtain ⟨x, hx, _⟩ := o_parse _ _ _ hf2
  obtain rfl : v2 = .agg x.cells.toArray := agg_of Try.underlying39 (hval 2 _ v2 rfl rfl) hx
  refine (spaceSteps_walk A n cap l S x.kind x.at_ x.many W hrd hl (by simp only [maxLen] at hcm; omega)).mono fun e W' ⟨he, hg⟩ => ⟨_, he, ?_⟩
  exact law_post laidOut Try.underlying4 rfl rfl (by kernel_rfl) (fun xs hx => by
    match xs, hx with
    | [_, _, _], _ => rfl) hW0 hg
theorem spaceSteps_over : Rows.spaceStepsRow.holds Try.pinned (OpenSpec.ofChange Rows.spaceStepsSpec) :=
  OpenClaim.holds_of_wide 5 Try.f5 rfl rfl rfl rfl rfl rfl rfl ⟨rfl, rfl, rfl, rfl, rfl⟩ rfl rfl rfl rfl rfl (by kernel_rfl) Try.func5 (by kernel_rfl)
    (of_decide_eq_true (by kernel_rfl)) (by unfold Func.isWrapper; first | (rw [if_pos (by decide +kernel)]; kernel_rfl) | (rw [if_neg (by decide +kernel)]; exact ⟨rfl, rfl⟩))
    (fun os started H enc _ => spaceSteps_lifted os started H enc)
theorem spaceSteps_holds : Rows.SpaceStepsSaid := spaceSteps_over
end Sp
theorem spaceSteps_holds : Rows.SpaceStepsSaid := Sp.spaceSteps_holds
end Go.Proofs.Ytakmfjnfkjdbfaa
