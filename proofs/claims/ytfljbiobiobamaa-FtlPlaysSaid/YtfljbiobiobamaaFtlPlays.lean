/-
  FtlPlays: ftl.Play answers as the reference does, for every list of operations. Conditions: none.
-/
import Derived.Test.YtfljbiobiobamaaFtI
import Derived.Test.YtfljbiobiobamaaParse
import Derived.Test.YtfljbiobiobamaaEq
import Derived.Test.YtfljbiobiobamaaReach
namespace Go.Proofs.Ytfljbiobiobamaa
open Go.ChangeShapes Go.WideShapes Go.ChangeAt Go.RowKit
set_option linter.unusedVariables false
namespace Ft

theorem A.facts {w wr : World} {b off Bd k : Nat} {l : List A} {x : A} (hb : b < Bd) (hB : Below Bd w wr) (hc : ∀ (i j : Nat) (x : A) (u : Value), l[i]? = some x → x.cells[j]? = some u → w.cell? ⟨b, off + (i * 2 + j), none⟩ = some u)
    (hx : l[k]? = some x) : wr.cell? ⟨b, off + k * 2, none⟩ = some (.int .i64 x.e) ∧ wr.cell? ⟨b, off + k * 2 + 1, none⟩ = some (.int .i64 x.d) :=
  ⟨(hB.cell hb).trans (hc k 0 x _ hx rfl), (hB.cell hb).trans (hc k 1 x _ hx rfl)⟩
theorem neqA (x : A) (w : World) : (binOp .neq 46 (.agg #[.int .i64 x.e, .int .i64 x.d]) (.agg #[.int .i64 x.e, .int .i64 x.d])).run Try.prog w = .ok (.bool false) w := by
  obtain ⟨a, b⟩ := x
  exact run_neq_self _ _ w (by kernel_rfl)
set_option maxHeartbeats 1600000 in
theorem equal_any (A A' : Option Addr) (n c c' : Nat) (l : List Ft.A) (w : World) (hr : Rd w w.heap.size 2 A n (l.flatMap Ft.A.cells)) (hr' : Rd w w.heap.size 2 A' n (l.flatMap Ft.A.cells)) (hl : l.length = n) (hn : n ≤ 9223372036854775807) :
    Calls Try.prog 15 #[.slice A n c, .slice A' n c'] w (Ret w (.bool true)) := by
  have HR := Lib.hid hr
  have HR' := Lib.hid hr'
  have HL := Lib.hid hl
  clear hr hr' hl
  go_enter Try.func15, Try.ntmps15
  go_wp2
  go_loopg [13] n (fun g i wr => ∃ k : Nat, k ≤ n ∧ g = n - k ∧ i = .int .i64 k ∧ Below w.heap.size w wr)
  case atStart => exact ⟨0, Nat.zero_le _, rfl, rfl, Below.refl _ _⟩
  case round =>
    obtain ⟨k, hk, rfl, rfl, hB⟩ := hrel
    by_cases hlt : k < n
    · obtain ⟨b, off, rfl, hb, hc⟩ := HR.out.at_ Ft.A.len (by omega)
      obtain ⟨b', off', rfl, hb', hc'⟩ := HR'.out.at_ Ft.A.len (by omega)
      obtain ⟨y, hy⟩ : ∃ y, l[k]? = some y := ⟨_, List.getElem?_eq_getElem (by rw [HL.out]; exact hlt)⟩
      have d1 := Ft.A.facts hb hB hc hy
      have d2 := Ft.A.facts hb' hB hc' hy
      have E := neqA y
      have i0 : (0 : Int) ≤ (k : Int) := by omega
      have i1 : (k : Int) < (n : Int) := by omega
      clear hc hc' hy
      go_wp2
      go_quiet (fail)
      go_wp2
      generalize hxw : World.drewN wr _ = xw
      have xh : Below wr.heap.size wr xw := by rw [← hxw]; exact below_drewN (Below.refl _ _) _
      clear hxw
      go_roundg (n - (k + 1))
      case measure => omega
      case rel => exact ⟨k + 1, by omega, rfl, by go_num, hB.trans (xh.mono hB.size)⟩
    · go_wp2
      go_ret
      exact Ret.mk rfl hB

set_option maxRecDepth 100000 in
set_option maxHeartbeats 1600000 in
theorem ftlPlays_big (Ad : Option Addr) (n c : Nat) (w : World) (hn : 400 < n) :
    Calls Try.prog 5 #[.slice Ad n c] w (Ret w (.bool true)) := by
  have HN := Lib.hid hn
  clear hn
  go_enter Try.func5, Try.ntmps5
  go_wp2_with fail
  refine (play_big Ad n c _ HN.out).mono ?_; rintro en w1 ⟨rfl, hb1⟩
  have HB1 := Lib.hid hb1
  clear hb1
  go_wp2_with fail
  refine (iplay_big Ad n c _ HN.out).mono ?_; rintro en w2 ⟨rfl, hb2⟩
  have HB2 := Lib.hid (HB1.out.trans (hb2.mono HB1.out.size))
  clear hb2
  have cE := Lib.hid (equal_any none none 0 0 0 [] w2 ⟨rfl, fun h => absurd h (Nat.lt_irrefl _)⟩ ⟨rfl, fun h => absurd h (Nat.lt_irrefl _)⟩ rfl (by omega))
  go_wp2_with fail
  refine cE.out.mono ?_; rintro en w3 ⟨rfl, hb3⟩
  have HB := Lib.hid (HB2.out.trans (hb3.mono HB2.out.size))
  go_wp2
  go_ret
  exact Ret.mk rfl HB.out

set_option maxRecDepth 100000 in
set_option maxHeartbeats 1600000 in
theorem ftlPlays_walk (Ad : Option Addr) (n c : Nat) (ops : List O) (w : World) (hr : Rd w w.heap.size 3 Ad n (ops.flatMap O.cells)) (hl : ops.length = n) (hn : n ≤ 400) (hwf : ∀ o ∈ ops, (Lit.int .i64 o.n).wf = true) :
    Calls Try.prog 5 #[.slice Ad n c] w (Ret w (.bool true)) := by
  obtain ⟨as_, hp, hal⟩ := plays_ex ops mno
  rw [hl] at hal
  have c1 := Lib.hid (play_any Ad n c ops as_ w hr hl hn hp hwf)
  have c2 := Lib.hid (fun w' (hb : Below w.heap.size w w') => iplay_any Ad n c ops as_ w' (hr.later hb) hl hn hp hwf)
  have HAL := Lib.hid hal
  clear hr hl hwf hp hal
  go_enter Try.func5, Try.ntmps5
  go_wp2_with fail
  refine c1.out.mono ?_; rintro en w1 ⟨A1, q1, A2, q2, rfl, K1⟩
  have S1 := Lib.hid K1
  clear K1
  go_wp2_with fail
  refine (c2.out w1 S1.out.below).mono ?_; rintro en w2 ⟨A3, q3, rfl, K2⟩
  have S2 := Lib.hid (S1.out.join K2)
  have cE := Lib.hid (equal_any A1 A3 n q1 q3 as_ w2 (S2.out.rd 0 rfl) (S2.out.rd 1 rfl) HAL.out (by omega))
  clear K2 c1 c2
  go_wp2_with fail
  refine cE.out.mono ?_; rintro en w3 ⟨rfl, hb3⟩
  have HB := S2.out.later hb3
  go_wp2
  go_ret
  exact Ret.mk rfl HB.below

theorem op_cells : Try.prog.cellsOf 93 = 3 := by kernel_rfl
theorem op_parse {H : Type} {enc : TypeId × Value → H} {w : World} {base : Nat} {spare : Nat → Bool} {held : Bool} (n : Nat) (cs : List Value) (y : DataW H × List MemPlace)
    (h : DataW.trod enc Try.prog w base spare held n 93 cs = some y) : ∃ x : O, cs = x.cells ∧ (Lit.int .i64 x.n).wf = true := by
  obtain ⟨hl, m, hf⟩ := parse_fields Try.underlying93 (by kernel_rfl) (by kernel_rfl) h
  obtain ⟨v0, z0, e0, t0⟩ := hf 0 _ rfl
  obtain ⟨v1, z1, e1, t1⟩ := hf 1 _ rfl
  obtain ⟨v2, z2, e2, t2⟩ := hf 2 _ rfl
  obtain ⟨a, rfl, _⟩ := parse_int Try.underlying3 t0
  obtain ⟨b, rfl, hb⟩ := parse_int Try.underlying3 t1
  obtain ⟨d, rfl, _⟩ := parse_int Try.underlying3 t2
  match cs, hl with
  | [c0, c1, c2], _ =>
    simp at e0 e1 e2
    subst e0 e1 e2
    exact ⟨⟨a, b, d⟩, rfl, hb⟩

set_option maxRecDepth 100000 in
set_option maxHeartbeats 400000 in
theorem ftlPlays_lifted (os : Os) (started : os.Started) (H : Type) (enc : TypeId × Value → H) :
    ReturnsInHanded {} Try.checked os 5 .any (Rows.ftlPlaysSpec.pre6 enc Try.prog Try.f5 Rows.ftlPlaysRow.domain false)
      (Rows.ftlPlaysSpec.post enc Try.prog Try.f5 false true false false) := by
  refine returnsInHanded_of_change (C := Try.checked) own started (by kernel_rfl) Try.func5
    (ChangeSpec.witness6 (enc := enc) (C := Try.checked) false ⟨#[], #[.slice none 0 0], []⟩ 8 (by kernel_rfl) (by kernel_rfl) (by kernel_rfl) (by kernel_rfl)) ?_
  intro W base args ds gs before hval0 hW hcnd _
  have hval : ∀ (j : Nat) t v, Try.f5.params[j]? = some t → args[j]? = some v → Value.okWide Try.prog W .any base t v := hval0
  have hW0 := hW
  obtain ⟨p, q, hA0, hV, _, _, _⟩ := hW
  have hA : DataW.TrodAll enc Try.prog W 0 (fun _ => true) true Try.f5.params.toList args.toList ds p := hA0
  rw [Try.params5] at hA hval
  obtain ⟨v0, vs0, d0, ds0, p0, q0, hargs, rfl, rfl, h0, r0⟩ := trodAll_cons hA
  obtain ⟨rfl, rfl, rfl⟩ := trodAll_nil r0
  obtain rfl : args = #[v0] := by cases args; simp_all
  obtain ⟨fu, hf⟩ := h0
  obtain ⟨A, n, cap, l, hcs, hl, hnc, hcm, _, hrd, hQ, hd⟩ := open_list O.cells (fun o => (Lit.int .i64 o.n).wf = true) Try.underlying38 op_cells O.len (by omega) op_parse hf
  obtain rfl := slice_of hcs (okWide_slice Try.underlying38 (hval 0 _ v0 rfl rfl))
  have hwalk : Calls Try.prog 5 #[.slice A n cap] W (Ret W (.bool true)) := by
    by_cases h : 400 < n
    · exact ftlPlays_big A n cap W h
    · exact ftlPlays_walk A n cap l W hrd hl (by omega) hQ
  refine hwalk.mono fun e W' ⟨he, hg⟩ => ⟨_, he, ?_⟩
  exact law_post laidOut Try.underlying4 rfl rfl (by kernel_rfl) (fun xs hx => by
    match xs, hx with
    | [_], _ => rfl) hW0 hg
theorem ftlPlays_over : Rows.ftlPlaysRow.holds Try.pinned (OpenSpec.ofChange Rows.ftlPlaysSpec) :=
  OpenClaim.holds_of_wide 5 Try.f5 rfl rfl rfl rfl rfl rfl rfl ⟨rfl, rfl, rfl, rfl, rfl⟩ rfl rfl rfl rfl rfl (by kernel_rfl) Try.func5 (by kernel_rfl)
    (of_decide_eq_true (by kernel_rfl)) (by unfold Func.isWrapper; first | (rw [if_pos (by decide +kernel)]; kernel_rfl) | (rw [if_neg (by decide +kernel)]; exact ⟨rfl, rfl⟩))
    (fun os started H enc _ => ftlPlays_lifted os started H enc)
theorem ftlPlays_holds : Rows.FtlPlaysSaid := ftlPlays_over
end Ft
theorem ftlPlays_holds : Rows.FtlPlaysSaid := Ft.ftlPlays_holds
end Go.Proofs.Ytfljbiobiobamaa
