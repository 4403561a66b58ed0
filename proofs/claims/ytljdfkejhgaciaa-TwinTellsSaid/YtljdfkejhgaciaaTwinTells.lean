/-
  TwinTells: twin.Right, Read and Write answer as the reference does, for every pair of slots. Conditions: none.
-/
import Derived.Test.YtljdfkejhgaciaaTwinK
import Derived.Test.YtljdfkejhgaciaaParse
import Derived.Test.YtljdfkejhgaciaaParse2
import Derived.Test.YtljdfkejhgaciaaEq
import Derived.Test.YtljdfkejhgaciaaRowG
namespace Go.Proofs.Ytljdfkejhgaciaa
open Go.ChangeShapes Go.WideShapes Go.ChangeAt Go.RowKit
set_option linter.unusedVariables false
namespace Twin

theorem quiet_load {P : Program} {ops : Array Oper} {C : World → Prop} {Q : Act → Prop} {rest : List Oper} {o : Oper} {a : Act} (hg : Region.wanted o (yielded ops a.tmps) = true) (ty : TypeId) (x : Operand) (ho : o.op = .load ty x) (v : Value)
    (hx : ∀ w, C w → (Instr.loadAt ty (a.eval x)).run P w = .ok v w) (h : wpQuiet P ops C Q rest (a.put o.dst v)) : wpQuiet P ops C Q (o :: rest) a := by
  unfold wpQuiet
  rw [if_pos hg]
  refine ⟨v, fun w hw => ?_, h⟩
  unfold Oper.quietAt execOp
  simp only [ho, Sem.run_bind, hx w hw, Result.andThen_ok, Sem.run_pure]
  exact ⟨rfl, rfl⟩
theorem loadAt_of {P : Program} {t : TypeId} {g : Nat} {w : World} {v : Value} (h : (loadVar t ⟨g, 0, none⟩).run P w = .ok v w) : (Instr.loadAt t (.pointer (some ⟨g, 0, none⟩))).run P w = .ok v w := by
  simp only [Instr.loadAt, Instr.sureAddr, Sem.run_bind, Result.andThen]
  exact h
theorem self6 (w0 : Bool) (c0 d0 : Int) (w1 : Bool) (c1 d1 : Int) : selfB Try.prog 10000 46 (.agg #[.bool w0, .int .i64 c0, .int .i64 d0, .bool w1, .int .i64 c1, .int .i64 d1]) = true := by kernel_rfl
theorem eq6 (w0 : Bool) (c0 d0 : Int) (w1 : Bool) (c1 d1 : Int) (w : World) : (binOp .eql 46 (.agg #[.bool w0, .int .i64 c0, .int .i64 d0, .bool w1, .int .i64 c1, .int .i64 d1]) (.agg #[.bool w0, .int .i64 c0, .int .i64 d0, .bool w1, .int .i64 c1, .int .i64 d1])).run Try.prog w = .ok (.bool true) w := run_eql_self _ _ w (self6 w0 c0 d0 w1 c1 d1)

/-- what the reading gives, case by case -/
inductive Reads (s : T) : Bool → Int → Int → Int → Prop
  | no {k : Int} (hr : rightB s = false) (hk : cur s = k) (h : readE s = (0, 1)) : Reads s false k 0 1
  | none (hr : rightB s = true) (hk : cur s = -1) (h : readE s = (0, 3)) : Reads s true (-1) 0 3
  | zero (hr : rightB s = true) (hk : cur s = 0) (h : readE s = (s.d0, 0)) : Reads s true 0 s.d0 0
  | one (hr : rightB s = true) (hk : cur s = 1) (h : readE s = (s.d1, 0)) : Reads s true 1 s.d1 0
theorem reads_ex (s : T) : ∃ b k d e, Reads s b k d e := by
  cases hr : rightB s with
  | false => exact ⟨_, _, _, _, .no hr rfl (by rw [readE, hr]; rfl)⟩
  | true =>
    rcases cur_cases s with hc | hc | hc
    · exact ⟨_, _, _, _, .zero hr hc (by rw [readE, hr, if_pos rfl, hc, dataOf, hc]; rfl)⟩
    · exact ⟨_, _, _, _, .one hr hc (by rw [readE, hr, if_pos rfl, hc, dataOf, hc]; rfl)⟩
    · exact ⟨_, _, _, _, .none hr hc (by rw [readE, hr, if_pos rfl, hc]; rfl)⟩

set_option maxHeartbeats 4000000 in
theorem twinTells_walk (w0 : Bool) (c0 d0 : Int) (w1 : Bool) (c1 d1 : Int) (data : Int) (broken : Bool) (w : World) :
    Calls Try.prog 6 #[.agg #[.bool w0, .int .i64 c0, .int .i64 d0, .bool w1, .int .i64 c1, .int .i64 d1], .int .i64 data, .bool broken] w (Ret w (.bool true)) := by
  have k1 := Lib.hid (fun W => write_any ⟨w0, c0, d0, w1, c1, d1⟩ data broken W)
  have k2 := Lib.hid (fun W => kwrite_any ⟨w0, c0, d0, w1, c1, d1⟩ data broken W)
  have k3 := Lib.hid (fun W => read_any ⟨w0, c0, d0, w1, c1, d1⟩ W)
  obtain ⟨b, kc, rd, re, hR⟩ := reads_ex ⟨w0, c0, d0, w1, c1, d1⟩
  generalize writeE ⟨w0, c0, d0, w1, c1, d1⟩ data broken = we at k1 k2
  obtain ⟨⟨a0, a1, a2, a3, a4, a5⟩, we⟩ := we
  have E1 := fun W => eq6 a0 a1 a2 a3 a4 a5 W
  have HS := Lib.hid (Blk.new w 46 [.bool w0, .int .i64 c0, .int .i64 d0, .bool w1, .int .i64 c1, .int .i64 d1])
  have hB0 : Below w.heap.size w (w.alloc (.cells #[.bool w0, .int .i64 c0, .int .i64 d0, .bool w1, .int .i64 c1, .int .i64 d1] 46)) := (Below.refl _ _).alloc (Nat.le_refl _) _
  unfold T.val at k1 k2 k3
  simp only at k1 k2 k3
  have HR := Lib.hid hR
  clear hR
  go_enter Try.func6, Try.ntmps6
  go_wp2_with (refine wpList_load_row rfl 46 (.tmp 3) rfl w.heap.size rfl 46 #[.bool w0, .int .i64 c0, .int .i64 d0, .bool w1, .int .i64 c1, .int .i64 d1] (0, 0) (.array 2 45) HS.out Try.underlying46 rfl (by kernel_rfl) ?_)
  refine (k1.out _).mono ?_; rintro e wa ⟨rfl, hb1⟩
  have HSa := Lib.hid (HS.out.later hb1)
  have hBa := hB0.trans (hb1.mono hB0.size)
  have hza := HSa.out.lt
  have F7 : Hid (Blk (wa.alloc (.cells #[.bool false, .int .i64 0, .int .i64 0, .bool false, .int .i64 0, .int .i64 0] 46)) wa.heap.size 46 [.bool false, .int .i64 0, .int .i64 0, .bool false, .int .i64 0, .int .i64 0]) := Lib.hid (Blk.new wa _ [.bool false, .int .i64 0, .int .i64 0, .bool false, .int .i64 0, .int .i64 0])
  go_upto_region 2 with (refine wpList_store_row rfl 46 (.tmp 7) (.tmp 21) rfl wa.heap.size #[.bool a0, .int .i64 a1, .int .i64 a2, .bool a3, .int .i64 a4, .int .i64 a5] rfl rfl 46 #[.bool false, .int .i64 0, .int .i64 0, .bool false, .int .i64 0, .int .i64 0] F7.out (by kernel_rfl) rfl (by simp [Value.oneCell']) ?_)
  have F7a := Lib.hid (F7.out.row [.bool a0, .int .i64 a1, .int .i64 a2, .bool a3, .int .i64 a4, .int .i64 a5])
  have HSb := Lib.hid ((HSa.out.alloc (.cells #[.bool false, .int .i64 0, .int .i64 0, .bool false, .int .i64 0, .int .i64 0] 46)).rowOther (g' := wa.heap.size) (by omega) [.bool a0, .int .i64 a1, .int .i64 a2, .bool a3, .int .i64 a4, .int .i64 a5].toArray)
  have hBb := below_row (hBa.alloc hBa.size (.cells #[.bool false, .int .i64 0, .int .i64 0, .bool false, .int .i64 0, .int .i64 0] 46)) hBa.size [.bool a0, .int .i64 a1, .int .i64 a2, .bool a3, .int .i64 a4, .int .i64 a5].toArray
  clear HS hB0 hb1 HSa F7
  generalize g7e : wa.heap.size = g7 at F7a HSb hBb hza ⊢
  generalize hwb : (wa.alloc (.cells #[.bool false, .int .i64 0, .int .i64 0, .bool false, .int .i64 0, .int .i64 0] 46)).setRow g7 #[.bool a0, .int .i64 a1, .int .i64 a2, .bool a3, .int .i64 a4, .int .i64 a5] = wb at F7a HSb hBb ⊢
  clear hwb hBa
  go_wp2_with (refine wpList_load_row rfl 46 (.tmp 3) rfl w.heap.size rfl 46 #[.bool w0, .int .i64 c0, .int .i64 d0, .bool w1, .int .i64 c1, .int .i64 d1] (0, 0) (.array 2 45) HSb.out Try.underlying46 rfl (by kernel_rfl) ?_)
  refine (k2.out _).mono ?_; rintro e wc ⟨rfl, hb2⟩
  have HSc := Lib.hid (HSb.out.later hb2)
  have F7c := Lib.hid (F7a.out.later hb2)
  have hBc := hBb.trans (hb2.mono hBb.size)
  have hzc := HSc.out.lt
  have hzd := F7c.out.lt
  have F9 : Hid (Blk (wc.alloc (.cells #[.bool false, .int .i64 0, .int .i64 0, .bool false, .int .i64 0, .int .i64 0] 46)) wc.heap.size 46 [.bool false, .int .i64 0, .int .i64 0, .bool false, .int .i64 0, .int .i64 0]) := Lib.hid (Blk.new wc _ [.bool false, .int .i64 0, .int .i64 0, .bool false, .int .i64 0, .int .i64 0])
  go_upto_region 3 with (refine wpList_store_row rfl 46 (.tmp 9) (.tmp 28) rfl wc.heap.size #[.bool a0, .int .i64 a1, .int .i64 a2, .bool a3, .int .i64 a4, .int .i64 a5] rfl rfl 46 #[.bool false, .int .i64 0, .int .i64 0, .bool false, .int .i64 0, .int .i64 0] F9.out (by kernel_rfl) rfl (by simp [Value.oneCell']) ?_)
  have F9a := Lib.hid (F9.out.row [.bool a0, .int .i64 a1, .int .i64 a2, .bool a3, .int .i64 a4, .int .i64 a5])
  have HSd := Lib.hid ((HSc.out.alloc (.cells #[.bool false, .int .i64 0, .int .i64 0, .bool false, .int .i64 0, .int .i64 0] 46)).rowOther (g' := wc.heap.size) (by omega) [.bool a0, .int .i64 a1, .int .i64 a2, .bool a3, .int .i64 a4, .int .i64 a5].toArray)
  have F7d := Lib.hid ((F7c.out.alloc (.cells #[.bool false, .int .i64 0, .int .i64 0, .bool false, .int .i64 0, .int .i64 0] 46)).rowOther (g' := wc.heap.size) (by omega) [.bool a0, .int .i64 a1, .int .i64 a2, .bool a3, .int .i64 a4, .int .i64 a5].toArray)
  have hBd := below_row (hBc.alloc hBc.size (.cells #[.bool false, .int .i64 0, .int .i64 0, .bool false, .int .i64 0, .int .i64 0] 46)) hBc.size [.bool a0, .int .i64 a1, .int .i64 a2, .bool a3, .int .i64 a4, .int .i64 a5].toArray
  clear hBb hb2 HSb F7a HSc F7c F9
  generalize g9e : wc.heap.size = g9 at F7d F9a HSd hBd hzc hzd ⊢
  generalize hwd : (wc.alloc (.cells #[.bool false, .int .i64 0, .int .i64 0, .bool false, .int .i64 0, .int .i64 0] 46)).setRow g9 #[.bool a0, .int .i64 a1, .int .i64 a2, .bool a3, .int .i64 a4, .int .i64 a5] = wd at F7d F9a HSd hBd ⊢
  clear hwd hBc
  go_wp2_with (refine wpList_load_row rfl 46 (.tmp 3) rfl w.heap.size rfl 46 #[.bool w0, .int .i64 c0, .int .i64 d0, .bool w1, .int .i64 c1, .int .i64 d1] (0, 0) (.array 2 45) HSd.out Try.underlying46 rfl (by kernel_rfl) ?_)
  refine (k3.out _).mono ?_; rintro e we' ⟨rfl, hb3⟩
  have HSe := Lib.hid (HSd.out.later hb3)
  have F7e := Lib.hid (F7d.out.later hb3)
  have F9e := Lib.hid (F9a.out.later hb3)
  have hBe := hBd.trans (hb3.mono hBd.size)
  clear HSd F7d F9a hBd hb3
  go_wp2_with (refine wpList_load_row rfl 46 (.tmp 3) rfl w.heap.size rfl 46 #[.bool w0, .int .i64 c0, .int .i64 d0, .bool w1, .int .i64 c1, .int .i64 d1] (0, 0) (.array 2 45) HSe.out Try.underlying46 rfl (by kernel_rfl) ?_)
  have kn := Lib.hid (fun W => knewer_is ⟨w0, c0, d0, w1, c1, d1⟩ kc W (by cases HR.out <;> assumption))
  refine (kn.out _).mono ?_; rintro e wf ⟨rfl, hb4⟩
  have HSf := Lib.hid (HSe.out.later hb4)
  have F7f := Lib.hid (F7e.out.later hb4)
  have F9f := Lib.hid (F9e.out.later hb4)
  have hBf := hBe.trans (hb4.mono hBe.size)
  clear HSe F7e F9e hBe hb4 kn
  go_wp2_with (refine wpList_load_row rfl 46 (.tmp 3) rfl w.heap.size rfl 46 #[.bool w0, .int .i64 c0, .int .i64 d0, .bool w1, .int .i64 c1, .int .i64 d1] (0, 0) (.array 2 45) HSf.out Try.underlying46 rfl (by kernel_rfl) ?_)
  have kr := Lib.hid (fun W => kright_is ⟨w0, c0, d0, w1, c1, d1⟩ b W (by cases HR.out <;> assumption))
  refine (kr.out _).mono ?_; rintro e wg ⟨rfl, hb5⟩
  have HSg := Lib.hid (HSf.out.later hb5)
  have F7g := Lib.hid (F7f.out.later hb5)
  have F9g := Lib.hid (F9f.out.later hb5)
  have hBg := hBf.trans (hb5.mono hBf.size)
  have ki := Lib.hid (fun W => right_is ⟨w0, c0, d0, w1, c1, d1⟩ b W (by cases HR.out <;> assumption))
  have hrE : Hid (readE ⟨w0, c0, d0, w1, c1, d1⟩ = (rd, re)) := Lib.hid (by cases HR.out <;> assumption)
  rw [hrE.out]
  clear HSf F7f F9f hBf hb5 k1 k2 k3
  have s2 : wg.cell? ⟨w.heap.size, 2, none⟩ = some (.int .i64 d0) := HSg.out.cell rfl
  have s5 : wg.cell? ⟨w.heap.size, 5, none⟩ = some (.int .i64 d1) := HSg.out.cell rfl
  have hcs := HR.out
  clear HR hrE
  cases hcs
  all_goals
    go_wp2
    refine wp_region_later (by kernel_rfl) (by kernel_rfl) ?_
    refine quiet_load rfl 46 (.tmp 3) rfl (.agg #[.bool w0, .int .i64 c0, .int .i64 d0, .bool w1, .int .i64 c1, .int .i64 d1]) (fun W hW => by obtain ⟨z, rfl⟩ := hW; exact loadAt_of ((HSg.out.later z.h).load Try.underlying46 (by kernel_rfl))) ?_
    simp only [Act.put, List.setIfInBounds_toArray, List.set_cons_succ, List.set_cons_zero]
    go_big_quiet_step ((go_at_call 25; exact Calls.later (ki.out _)))
    refine quiet_load rfl 46 (.tmp 3) rfl (.agg #[.bool w0, .int .i64 c0, .int .i64 d0, .bool w1, .int .i64 c1, .int .i64 d1]) (fun W hW => by obtain ⟨z, rfl⟩ := hW; exact loadAt_of ((HSg.out.later z.h).load Try.underlying46 (by kernel_rfl))) ?_
    simp only [Act.put, List.setIfInBounds_toArray, List.set_cons_succ, List.set_cons_zero]
    repeat (go_big_quiet_step ((go_at_call 24; exact Calls.later (kr.out _))))
    refine quiet_load rfl 46 (.tmp 7) rfl (.agg #[.bool a0, .int .i64 a1, .int .i64 a2, .bool a3, .int .i64 a4, .int .i64 a5]) (fun W hW => by obtain ⟨z, rfl⟩ := hW; exact loadAt_of ((F7g.out.later z.h).load Try.underlying46 (by kernel_rfl))) ?_
    simp only [Act.put, List.setIfInBounds_toArray, List.set_cons_succ, List.set_cons_zero]
    refine quiet_load rfl 46 (.tmp 9) rfl (.agg #[.bool a0, .int .i64 a1, .int .i64 a2, .bool a3, .int .i64 a4, .int .i64 a5]) (fun W hW => by obtain ⟨z, rfl⟩ := hW; exact loadAt_of ((F9g.out.later z.h).load Try.underlying46 (by kernel_rfl))) ?_
    simp only [Act.put, List.setIfInBounds_toArray, List.set_cons_succ, List.set_cons_zero]
    repeat (go_big_quiet_step (fail))
    refine wpQuiet_nil ?_; intro xw hw'; obtain ⟨xq, hw''⟩ := hw'; obtain ⟨xw0, xh⟩ := xq; change xw = xw0 at hw''; subst hw''
    go_wp2
    go_ret
    exact Ret.mk (bool_eq (by simp)) (hBg.trans (xh.mono hBg.size))

theorem slot_cells : Try.prog.cellsOf 45 = 3 := by kernel_rfl
structure Sl where
  (w : Bool) (c d : Int)
def Sl.cells (s : Sl) : List Value := [.bool s.w, .int .i64 s.c, .int .i64 s.d]
theorem slot_parse {H : Type} {enc : TypeId × Value → H} {w : World} {base : Nat} {spare : Nat → Bool} {held : Bool} (n : Nat) (cs : List Value) (y : DataW H × List MemPlace)
    (h : DataW.trod enc Try.prog w base spare held n 45 cs = some y) : ∃ x : Sl, cs = x.cells ∧ True := by
  obtain ⟨hl, m, hf⟩ := parse_fields Try.underlying45 (by kernel_rfl) (by kernel_rfl) h
  obtain ⟨v0, z0, e0, t0⟩ := hf 0 _ rfl
  obtain ⟨v1, z1, e1, t1⟩ := hf 1 _ rfl
  obtain ⟨v2, z2, e2, t2⟩ := hf 2 _ rfl
  obtain ⟨b, rfl⟩ := parse_bool Try.underlying4 t0
  obtain ⟨c, rfl, _⟩ := parse_int Try.underlying3 t1
  obtain ⟨d, rfl, _⟩ := parse_int Try.underlying3 t2
  match cs, hl with
  | [c0, c1, c2], _ =>
    simp at e0 e1 e2
    subst e0 e1 e2
    exact ⟨⟨b, c, d⟩, rfl, trivial⟩

theorem two_of {α : Type} {l : List α} (h : l.length = 2) : ∃ x y, l = [x, y] := by
  match l, h with
  | [x, y], _ => exact ⟨x, y, rfl⟩
theorem two_row (w0 : Bool) (c0 d0 : Int) (w1 : Bool) (c1 d1 : Int) : (([⟨w0, c0, d0⟩, ⟨w1, c1, d1⟩] : List Sl).flatMap Sl.cells).toArray = #[.bool w0, .int .i64 c0, .int .i64 d0, .bool w1, .int .i64 c1, .int .i64 d1] := rfl
set_option maxRecDepth 100000 in
set_option maxHeartbeats 400000 in
theorem twinTells_lifted (os : Os) (started : os.Started) (H : Type) (enc : TypeId × Value → H) :
    ReturnsInHanded {} Try.checked os 6 .any (Rows.twinTellsSpec.pre6 enc Try.prog Try.f6 Rows.twinTellsRow.domain false)
      (Rows.twinTellsSpec.post enc Try.prog Try.f6 false true false false) := by
  refine returnsInHanded_of_change (C := Try.checked) own started (by kernel_rfl) Try.func6
    (ChangeSpec.witness6 (enc := enc) (C := Try.checked) false ⟨#[], #[.agg #[.bool false, .int .i64 0, .int .i64 0, .bool false, .int .i64 0, .int .i64 0], .int .i64 0, .bool false], []⟩ 8 (by kernel_rfl) (by kernel_rfl) (by kernel_rfl) (by kernel_rfl)) ?_
  intro W base args ds gs before hval0 hW hcnd _
  have hval : ∀ (j : Nat) t v, Try.f6.params[j]? = some t → args[j]? = some v → Value.okWide Try.prog W .any base t v := hval0
  have hW0 := hW
  obtain ⟨p, q, hA0, hV, _, _, _⟩ := hW
  have hA : DataW.TrodAll enc Try.prog W 0 (fun _ => true) true Try.f6.params.toList args.toList ds p := hA0
  rw [Try.params6] at hA hval
  obtain ⟨v0, vs0, d0, ds0, p0, q0, hargs, rfl, rfl, h0, r0⟩ := trodAll_cons hA
  obtain ⟨v1, vs1, d1, ds1, p1, q1, rfl, rfl, rfl, h1, r1⟩ := trodAll_cons r0
  obtain ⟨v2, vs2, d2, ds2, p2, q2, rfl, rfl, rfl, h2, r2⟩ := trodAll_cons r1
  obtain ⟨rfl, rfl, rfl⟩ := trodAll_nil r2
  obtain rfl : args = #[v0, v1, v2] := by cases args; simp_all
  obtain ⟨l2, rfl, hl2, _⟩ := open_array Sl.cells (fun _ => True) Try.underlying46 slot_cells (by kernel_rfl) (fun _ => rfl) slot_parse (hval 0 _ v0 rfl rfl) h0
  obtain ⟨dt, rfl, rfl, rfl, wf⟩ := open_int Try.underlying3 (hval 1 _ v1 rfl rfl) h1
  obtain ⟨br, rfl, rfl, rfl⟩ := open_bool Try.underlying4 (hval 2 _ v2 rfl rfl) h2
  obtain ⟨⟨w0, c0, e0⟩, ⟨w1, c1, e1⟩, rfl⟩ := two_of hl2
  rw [two_row] at hW0 ⊢
  refine (twinTells_walk w0 c0 e0 w1 c1 e1 dt br W).mono fun e W' ⟨he, hg⟩ => ⟨_, he, ?_⟩
  exact law_post laidOut Try.underlying4 rfl rfl (by kernel_rfl) (fun xs hx => by
    match xs, hx with
    | [_, _, _], _ => rfl) hW0 hg

theorem twinTells_over : Rows.twinTellsRow.holds Try.pinned (OpenSpec.ofChange Rows.twinTellsSpec) :=
  OpenClaim.holds_of_wide 6 Try.f6 rfl rfl rfl rfl rfl rfl rfl ⟨rfl, rfl, rfl, rfl, rfl⟩ rfl rfl rfl rfl rfl (by kernel_rfl) Try.func6 (by kernel_rfl)
    (of_decide_eq_true (by kernel_rfl)) (by unfold Func.isWrapper; first | (rw [if_pos (by decide +kernel)]; kernel_rfl) | (rw [if_neg (by decide +kernel)]; exact ⟨rfl, rfl⟩))
    (fun os started H enc _ => twinTells_lifted os started H enc)
end Twin
theorem twinTells_holds : Rows.TwinTellsSaid := Twin.twinTells_over
end Go.Proofs.Ytljdfkejhgaciaa
