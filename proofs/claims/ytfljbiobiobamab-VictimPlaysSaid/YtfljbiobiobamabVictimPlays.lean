/-
  VictimPlays: victim.Play answers as the reference does, for every list, spread and count. Conditions: none.
-/
import Derived.Test.YtfljbiobiobamabViQ
import Derived.Test.YtfljbiobiobamabVictimTells
namespace Go.Proofs.Ytfljbiobiobamab
open Go.ChangeShapes Go.WideShapes Go.ChangeAt Go.RowKit
set_option linter.unusedVariables false
namespace Vic

theorem neqFm (x : Fm) (w : World) : (binOp .neq 34 (.agg #[.int .i64 x.nd, .int .i64 x.dn, .int .i64 x.we]) (.agg #[.int .i64 x.nd, .int .i64 x.dn, .int .i64 x.we])).run Try.prog w = .ok (.bool false) w := by
  obtain ⟨a, b, c⟩ := x
  exact run_neq_self _ _ w (by kernel_rfl)
set_option maxHeartbeats 1600000 in
theorem equal_fills (A A' : Option Addr) (n c c' : Nat) (l : List Fm) (w : World) (hr : Rd w w.heap.size 3 A n (l.flatMap Fm.cells)) (hr' : Rd w w.heap.size 3 A' n (l.flatMap Fm.cells)) (hl : l.length = n) (hn : n ≤ 9223372036854775807) :
    Calls Try.prog 20 #[.slice A n c, .slice A' n c'] w (Ret w (.bool true)) := by
  have HR := Lib.hid hr
  have HR' := Lib.hid hr'
  have HL := Lib.hid hl
  clear hr hr' hl
  go_enter Try.func20, Try.ntmps20
  go_wp2
  go_loopg [13] n (fun g i wr => ∃ k : Nat, k ≤ n ∧ g = n - k ∧ i = .int .i64 k ∧ Below w.heap.size w wr)
  case atStart => exact ⟨0, Nat.zero_le _, rfl, rfl, Below.refl _ _⟩
  case round =>
    obtain ⟨k, hk, rfl, rfl, hB⟩ := hrel
    by_cases hlt : k < n
    · obtain ⟨b, off, rfl, hb, hc⟩ := HR.out.at_ Fm.len (by omega)
      obtain ⟨b', off', rfl, hb', hc'⟩ := HR'.out.at_ Fm.len (by omega)
      obtain ⟨y, hy⟩ : ∃ y, l[k]? = some y := ⟨_, List.getElem?_eq_getElem (by rw [HL.out]; exact hlt)⟩
      have d1 := Fm.facts hb hB hc hy
      have d2 := Fm.facts hb' hB hc' hy
      have E := neqFm y
      have i0 : (0 : Int) ≤ (k : Int) := by omega
      have i1 : (k : Int) < (n : Int) := by omega
      clear hc hc' hy
      go_wp2
      go_quiet (fail)
      go_wp2
      generalize hxw : World.drewN wr _ = xw
      have xh : Below wr.heap.size wr xw := by rw [← hxw]; exact below_drewN (Below.refl _ _) _
      clear hxw
      go_roundg (n - (k + 1))
      case measure => omega
      case rel => exact ⟨k + 1, by omega, rfl, by go_num, hB.trans (xh.mono hB.size)⟩
    · go_wp2
      go_ret
      exact Ret.mk rfl hB
set_option maxHeartbeats 800000 in
theorem equal_ints (A A' : Option Addr) (n c c' : Nat) (l : List Int) (w : World) (hr : Rd w w.heap.size 1 A n (l.flatMap icell)) (hr' : Rd w w.heap.size 1 A' n (l.flatMap icell)) (hl : l.length = n) (hn : n ≤ 9223372036854775807) :
    Calls Try.prog 19 #[.slice A n c, .slice A' n c'] w (Ret w (.bool true)) := by
  have HR := Lib.hid hr
  have HR' := Lib.hid hr'
  have HL := Lib.hid hl
  clear hr hr' hl
  go_enter Try.func19, Try.ntmps19
  go_wp2
  go_loopg [13] n (fun g i wr => ∃ k : Nat, k ≤ n ∧ g = n - k ∧ i = .int .i64 k ∧ Below w.heap.size w wr)
  case atStart => exact ⟨0, Nat.zero_le _, rfl, rfl, Below.refl _ _⟩
  case round =>
    obtain ⟨k, hk, rfl, rfl, hB⟩ := hrel
    by_cases hlt : k < n
    · obtain ⟨b, off, rfl, hb, hc⟩ := HR.out.at_ icell_len (by omega)
      obtain ⟨b', off', rfl, hb', hc'⟩ := HR'.out.at_ icell_len (by omega)
      obtain ⟨y, hy⟩ : ∃ y, l[k]? = some y := ⟨_, List.getElem?_eq_getElem (by rw [HL.out]; exact hlt)⟩
      have d1 : ∀ z : LaterOf wr, z.w.cell? ⟨b, off + k, none⟩ = some (.int .i64 y) := fun z => z.cell ((hB.cell hb).trans (by have := hc k 0 y _ hy rfl; simpa using this))
      have d2 : ∀ z : LaterOf wr, z.w.cell? ⟨b', off' + k, none⟩ = some (.int .i64 y) := fun z => z.cell ((hB.cell hb').trans (by have := hc' k 0 y _ hy rfl; simpa using this))
      clear hc hc' hy
      have i0 : (0 : Int) ≤ (k : Int) := by omega
      have i1 : (k : Int) < (n : Int) := by omega
      go_upto_region 6 with (fail)
      refine wp_region_later (by kernel_rfl) (by kernel_rfl) ?_
      repeat (go_big_quiet_step (fail))
      refine wpQuiet_nil ?_; intro xw hw'; obtain ⟨xq, hw''⟩ := hw'; obtain ⟨xw0, xh⟩ := xq; change xw = xw0 at hw''; subst hw''
      go_wp2
      go_roundg (n - (k + 1))
      case measure => omega
      case rel => exact ⟨k + 1, by omega, rfl, by go_num, hB.trans (xh.mono hB.size)⟩
    · go_wp2
      go_ret
      exact Ret.mk rfl hB
theorem ncell_int (l : List Nat) : l.flatMap ncell = (l.map (fun x : Nat => (x : Int))).flatMap icell := by
  rw [ncell_map]
  induction l with
  | nil => rfl
  | cons x l ih => rw [List.map_cons, ih]; rfl

set_option maxRecDepth 100000 in
set_option maxHeartbeats 1600000 in
theorem victimPlays_walk (A : Option Addr) (n c : Nat) (l : List Fm) (sp tm : Int) (w : World) (hr : Rd w w.heap.size 3 A n (l.flatMap Fm.cells)) (hl : l.length = n) (hn : n ≤ 9223372036854775807) :
    Calls Try.prog 5 #[.slice A n c, .int .i64 sp, .int .i64 tm] w (Ret w (.bool true)) := by
  have cA := Lib.hid (vplay_any A n c l sp tm w hr hl hn)
  have cB := Lib.hid (fun (W : World) (hW : Below w.heap.size w W) => gplay_any A n c l sp tm W (hr.later hW) hl hn)
  clear hr hl
  go_enter Try.func5, Try.ntmps5
  go_wp2_with fail
  refine cA.out.mono ?_; rintro en w1 ⟨A1, A2, c1, c2, ch, lf, er, rfl, hres, hl1, hl2, hr1, hr2, hb1⟩
  have B1 := Lib.hid hb1
  have HRES := Lib.hid hres
  have HR1 := Lib.hid hr1
  have HR2 := Lib.hid hr2
  clear hb1 hres hr1 hr2 cA
  go_wp2_with fail
  refine (cB.out w1 B1.out).mono ?_; rintro en w2 ⟨A1', A2', c1', c2', ch', lf', er', rfl, hres, _, _, hr1, hr2, hb2⟩
  obtain ⟨rfl, rfl, rfl⟩ := HRES.out.uniq hres
  have B2 := Lib.hid (B1.out.trans (hb2.mono B1.out.size))
  have cI := Lib.hid (equal_ints A1 A1' ch.length c1 c1' (ch.map (fun x : Nat => (x : Int))) w2 (by rw [← ncell_int]; exact HR1.out.later hb2) (by rw [← ncell_int]; exact hr1) (by simp) (by omega))
  have cF := Lib.hid (fun (W : World) (hW : Below w2.heap.size w2 W) => equal_fills A2 A2' lf.length c2 c2' lf W ((HR2.out.later hb2).later hW) (hr2.later hW) rfl (by omega))
  have z1 : (er == er) = true := by simp
  clear hb2 hres hr1 hr2 cB HRES HR1 HR2
  go_wp2_with fail
  refine cI.out.mono ?_; rintro en w3 ⟨rfl, hb3⟩
  have B3 := Lib.hid (B2.out.trans (hb3.mono B2.out.size))
  have HB3 := Lib.hid hb3
  clear hb3 cI
  go_wp2_with fail
  refine (cF.out w3 HB3.out).mono ?_; rintro en w4 ⟨rfl, hb4⟩
  have B4 := Lib.hid (B3.out.trans (hb4.mono B3.out.size))
  clear hb4 cF
  go_wp2
  go_ret
  exact Ret.mk rfl B4.out

set_option maxRecDepth 100000 in
set_option maxHeartbeats 400000 in
theorem victimPlays_lifted (os : Os) (started : os.Started) (H : Type) (enc : TypeId × Value → H) :
    ReturnsInHanded {} Try.checked os 5 .any (Rows.victimPlaysSpec.pre6 enc Try.prog Try.f5 Rows.victimPlaysRow.domain false)
      (Rows.victimPlaysSpec.post enc Try.prog Try.f5 false true false false) := by
  refine returnsInHanded_of_change (C := Try.checked) own started (by kernel_rfl) Try.func5
    (ChangeSpec.witness6 (enc := enc) (C := Try.checked) false ⟨#[], #[.slice none 0 0, .int .i64 0, .int .i64 0], []⟩ 8 (by kernel_rfl) (by kernel_rfl) (by kernel_rfl) (by kernel_rfl)) ?_
  intro W base args ds gs before hval0 hW hcnd _
  have hval : ∀ (j : Nat) t v, Try.f5.params[j]? = some t → args[j]? = some v → Value.okWide Try.prog W .any base t v := hval0
  have hW0 := hW
  obtain ⟨p, q, hA0, hV, _, _, _⟩ := hW
  have hA : DataW.TrodAll enc Try.prog W 0 (fun _ => true) true Try.f5.params.toList args.toList ds p := hA0
  rw [Try.params5] at hA hval
  obtain ⟨v0, vs0, d0, ds0, p0, q0, hargs, rfl, rfl, h0, r0⟩ := trodAll_cons hA
  obtain ⟨v1, vs1, d1, ds1, p1, q1, rfl, rfl, rfl, h1, r1⟩ := trodAll_cons r0
  obtain ⟨v2, vs2, d2, ds2, p2, q2, rfl, rfl, rfl, h2, r2⟩ := trodAll_cons r1
  obtain ⟨rfl, rfl, rfl⟩ := trodAll_nil r2
  obtain rfl : args = #[v0, v1, v2] := by cases args; simp_all
  obtain ⟨b, rfl, rfl, rfl, _⟩ := open_int Try.underlying3 (hval 1 _ v1 rfl rfl) h1
  obtain ⟨m, rfl, rfl, rfl, _⟩ := open_int Try.underlying3 (hval 2 _ v2 rfl rfl) h2
  obtain ⟨fu, hf⟩ := h0
  obtain ⟨A, n, cap, l, hcs, hl, hnc, hcm, _, hrd, _, _⟩ := open_list Fm.cells (fun _ => True) Try.underlying28 fill_cells Fm.len (by omega) fill_parse hf
  obtain rfl := slice_of hcs (okWide_slice Try.underlying28 (hval 0 _ v0 rfl rfl))
  unfold maxLen at hcm
  refine (victimPlays_walk A n cap l b m W hrd hl (by omega)).mono fun e W' ⟨he, hg⟩ => ⟨_, he, ?_⟩
  exact law_post laidOut Try.underlying4 rfl rfl (by kernel_rfl) (fun xs hx => by
    match xs, hx with
    | [_, _, _], _ => rfl) hW0 hg
theorem victimPlays_over : Rows.victimPlaysRow.holds Try.pinned (OpenSpec.ofChange Rows.victimPlaysSpec) :=
  OpenClaim.holds_of_wide 5 Try.f5 rfl rfl rfl rfl rfl rfl rfl ⟨rfl, rfl, rfl, rfl, rfl⟩ rfl rfl rfl rfl rfl (by kernel_rfl) Try.func5 (by kernel_rfl)
    (of_decide_eq_true (by kernel_rfl)) (by unfold Func.isWrapper; first | (rw [if_pos (by decide +kernel)]; kernel_rfl) | (rw [if_neg (by decide +kernel)]; exact ⟨rfl, rfl⟩))
    (fun os started H enc _ => victimPlays_lifted os started H enc)
theorem victimPlays_holds : Rows.VictimPlaysSaid := victimPlays_over
end Vic
theorem victimPlays_holds : Rows.VictimPlaysSaid := Vic.victimPlays_holds
end Go.Proofs.Ytfljbiobiobamab
