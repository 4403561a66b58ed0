/-
  HeapMakes: heap.Make and Sorted answer as the reference does, for every list of blocks. Conditions: none.
-/
import Derived.Test.YtfljbiobiobamabHkW
import Derived.Test.YtfljbiobiobamabHkS
import Derived.Test.YtfljbiobiobamabParse
import Derived.Test.YtfljbiobiobamabEq
import Derived.Test.YtfljbiobiobamabReach
namespace Go.Proofs.Ytfljbiobiobamab
open Go.ChangeShapes Go.WideShapes Go.ChangeAt Go.RowKit
set_option linter.unusedVariables false
namespace Hp
theorem neqW (x : W) (w : World) : (binOp .neq 25 (.agg #[.int .i64 x.id, .int .i64 x.wear]) (.agg #[.int .i64 x.id, .int .i64 x.wear])).run Try.prog w = .ok (.bool false) w := by
  obtain ⟨a, b⟩ := x
  exact run_neq_self _ _ w (by kernel_rfl)
set_option maxHeartbeats 1600000 in
theorem equal_worn (A A' : Option Addr) (n c c' : Nat) (l : List W) (w : World) (hr : Rd w w.heap.size 2 A n (l.flatMap W.cells)) (hr' : Rd w w.heap.size 2 A' n (l.flatMap W.cells)) (hl : l.length = n) (hn : n ≤ 9223372036854775807) :
    Calls Try.prog 7 #[.slice A n c, .slice A' n c'] w (Ret w (.bool true)) := by
  have HR := Lib.hid hr
  have HR' := Lib.hid hr'
  have HL := Lib.hid hl
  clear hr hr' hl
  go_enter Try.func7, Try.ntmps7
  go_wp2
  go_loopg [13] n (fun g i wr => ∃ k : Nat, k ≤ n ∧ g = n - k ∧ i = .int .i64 k ∧ Below w.heap.size w wr)
  case atStart => exact ⟨0, Nat.zero_le _, rfl, rfl, Below.refl _ _⟩
  case round =>
    obtain ⟨k, hk, rfl, rfl, hB⟩ := hrel
    by_cases hlt : k < n
    · obtain ⟨b, off, rfl, hb, hc⟩ := HR.out.at_ W.len (by omega)
      obtain ⟨b', off', rfl, hb', hc'⟩ := HR'.out.at_ W.len (by omega)
      obtain ⟨y, hy⟩ : ∃ y, l[k]? = some y := ⟨_, List.getElem?_eq_getElem (by rw [HL.out]; exact hlt)⟩
      have d1 := W.facts hb hB hc hy
      have d2 := W.facts hb' hB hc' hy
      have E := neqW y
      have i0 : (0 : Int) ≤ (k : Int) := by omega
      have i1 : (k : Int) < (n : Int) := by omega
      clear hc hc' hy
      go_wp2
      go_quiet (fail)
      go_wp2
      generalize hxw : World.drewN wr _ = xw
      have xh : Below wr.heap.size wr xw := by rw [← hxw]; exact below_drewN (Below.refl _ _) _
      clear hxw
      go_roundg (n - (k + 1))
      case measure => omega
      case rel => exact ⟨k + 1, by omega, rfl, by go_num, hB.trans (xh.mono hB.size)⟩
    · go_wp2
      go_ret
      exact Ret.mk rfl hB

set_option maxRecDepth 100000 in
set_option maxHeartbeats 1600000 in
theorem heapMakes_walk (A : Option Addr) (n c : Nat) (l : List W) (w : World) (hr : Rd w w.heap.size 2 A n (l.flatMap W.cells)) (hl : l.length = n) (hn : n * 16 ≤ 140737488351232) :
    Calls Try.prog 3 #[.slice A n c] w (Ret w (.bool true)) := by
  obtain ⟨lf, hm, hlf⟩ := mk_ex (n / 2) l
  have hm2 : Mk l n lf := by
    rw [← hl] at hm ⊢
    exact mk_all hm
  have HLF : Hid (lf.length = n) := Lib.hid (hlf.trans hl)
  have c1 := Lib.hid (make_any A n c l lf w hr hl (by omega) hm)
  have c2 := Lib.hid (fun w' (hb : Below w.heap.size w w') => fmake_any A n c l lf w' (hr.later hb) hl (by omega) hm2)
  have c3 := Lib.hid (fun w' (hb : Below w.heap.size w w') => Hk.sorted_any A n c l w' (hr.later hb) hl (by omega))
  have c4 := Lib.hid (fun w' (hb : Below w.heap.size w w') => Hk.fsorted_any A n c l w' (hr.later hb) hl (by omega))
  have HL := Lib.hid hl
  clear hr hl hm hm2 hlf
  go_enter Try.func3, Try.ntmps3
  go_wp2_with fail
  refine c1.out.mono ?_; rintro en w1 ⟨A1, q1, hq1, rfl, K⟩
  have S1 := Lib.hid K
  clear K c1 hq1
  go_wp2_with fail
  refine (c2.out _ S1.out.below).mono ?_; rintro en w2 ⟨A2, q2, hq2, rfl, K⟩
  have S2 := Lib.hid (S1.out.join K)
  clear K c2 S1 hq2
  have cE := Lib.hid (equal_worn A1 A2 n q1 q2 lf w2 (S2.out.rd 0 rfl) (S2.out.rd 1 rfl) HLF.out (by omega))
  go_wp2_with fail
  refine cE.out.mono ?_; rintro en w3 ⟨rfl, hb⟩
  have S3 := Lib.hid (S2.out.later hb)
  clear hb S2 cE
  go_wp2_with fail
  refine (c3.out _ S3.out.below).mono ?_; rintro en w4 ⟨P, A3, q3, hP, rfl, K⟩
  have S4 := Lib.hid (S3.out.join K)
  have HP := Lib.hid hP
  clear K c3 S3 hP
  go_wp2_with fail
  refine (c4.out _ S4.out.below).mono ?_; rintro en w5 ⟨P', A4, q4, hP', rfl, K⟩
  obtain rfl : P' = P := Hk.srtd_one hP' HP.out
  have S5 := Lib.hid (S4.out.join K)
  clear K c4 S4 hP'
  have cE := Lib.hid (equal_worn A3 A4 n q3 q4 P' w5 (S5.out.rd 2 rfl) (S5.out.rd 3 rfl) (by rw [HP.out.1.length_eq]; exact HL.out) (by omega))
  go_wp2_with fail
  refine cE.out.mono ?_; rintro en w6 ⟨rfl, hb⟩
  have S6 := Lib.hid (S5.out.later hb)
  clear hb S5 cE
  go_wp2
  go_ret
  exact Ret.mk rfl S6.out.below

theorem worn_cells : Try.prog.cellsOf 25 = 2 := by kernel_rfl
theorem worn_bytes : Try.prog.bytesOf 25 = 16 := by kernel_rfl
theorem worn_parse {H : Type} {enc : TypeId × Value → H} {w : World} {base : Nat} {spare : Nat → Bool} {held : Bool} (n : Nat) (cs : List Value) (y : DataW H × List MemPlace)
    (h : DataW.trod enc Try.prog w base spare held n 25 cs = some y) : ∃ x : W, cs = x.cells ∧ True := by
  obtain ⟨hl, m, hf⟩ := parse_fields Try.underlying25 (by kernel_rfl) (by kernel_rfl) h
  obtain ⟨v0, z0, e0, t0⟩ := hf 0 _ rfl
  obtain ⟨v1, z1, e1, t1⟩ := hf 1 _ rfl
  obtain ⟨a, rfl, _⟩ := parse_int Try.underlying3 t0
  obtain ⟨b, rfl, _⟩ := parse_int Try.underlying3 t1
  match cs, hl with
  | [c0, c1], _ =>
    simp at e0 e1
    subst e0 e1
    exact ⟨⟨a, b⟩, rfl, trivial⟩

set_option maxRecDepth 100000 in
set_option maxHeartbeats 400000 in
theorem heapMakes_lifted (os : Os) (started : os.Started) (H : Type) (enc : TypeId × Value → H) :
    ReturnsInHanded {} Try.checked os 3 .any (Rows.heapMakesSpec.pre6 enc Try.prog Try.f3 Rows.heapMakesRow.domain false)
      (Rows.heapMakesSpec.post enc Try.prog Try.f3 false true false false) := by
  refine returnsInHanded_of_change_sized (C := Try.checked) own started (by kernel_rfl) Try.func3
    (ChangeSpec.witness6 (enc := enc) (C := Try.checked) false ⟨#[], #[.slice none 0 0], []⟩ 8 (by kernel_rfl) (by kernel_rfl) (by kernel_rfl) (by kernel_rfl)) ?_
  intro W base args ds gs before hval0 hW hcnd hsz0 _
  have hval : ∀ (j : Nat) t v, Try.f3.params[j]? = some t → args[j]? = some v → Value.okWide Try.prog W .any base t v := hval0
  have hsz : (DataW.weightsEach Try.prog (Try.f3.params.toList ++ Rows.heapMakesSpec.plain.varTypes Try.prog) (ds ++ gs)).all (· ≤ reachBytes) = true := hsz0
  have hW0 := hW
  obtain ⟨p, q, hA0, hV, _, _, _⟩ := hW
  have hA : DataW.TrodAll enc Try.prog W 0 (fun _ => true) true Try.f3.params.toList args.toList ds p := hA0
  rw [Try.params3] at hA hval hsz
  obtain ⟨v0, vs0, d0, ds0, p0, q0, hargs, rfl, rfl, h0, r0⟩ := trodAll_cons hA
  obtain ⟨rfl, rfl, rfl⟩ := trodAll_nil r0
  obtain rfl : args = #[v0] := by cases args; simp_all
  obtain ⟨fu0, hf0⟩ := h0
  obtain ⟨A, n, cap, l, hcs, hl, hnc, hcm, _, hrd, _, hd⟩ := open_list Hp.W.cells (fun _ => True) Try.underlying22 worn_cells Hp.W.len (by omega) worn_parse hf0
  obtain rfl := slice_of hcs (okWide_slice Try.underlying22 (hval 0 _ v0 rfl rfl))
  have hn := reach_of hsz (j := 0) rfl rfl Try.underlying22 worn_bytes hd
  refine (heapMakes_walk A n cap l W hrd hl (by omega)).mono fun e W' ⟨he, hg⟩ => ⟨_, he, ?_⟩
  exact law_post laidOut Try.underlying4 rfl rfl (by kernel_rfl) (fun xs hx => by
    match xs, hx with
    | [_], _ => rfl) hW0 hg
theorem heapMakes_over : Rows.heapMakesRow.holds Try.pinned (OpenSpec.ofChange Rows.heapMakesSpec) :=
  OpenClaim.holds_of_wide 3 Try.f3 rfl rfl rfl rfl rfl rfl rfl ⟨rfl, rfl, rfl, rfl, rfl⟩ rfl rfl rfl rfl rfl (by kernel_rfl) Try.func3 (by kernel_rfl)
    (of_decide_eq_true (by kernel_rfl)) (by unfold Func.isWrapper; first | (rw [if_pos (by decide +kernel)]; kernel_rfl) | (rw [if_neg (by decide +kernel)]; exact ⟨rfl, rfl⟩))
    (fun os started H enc _ => heapMakes_lifted os started H enc)
theorem heapMakes_holds : Rows.HeapMakesSaid := heapMakes_over
end Hp
theorem heapMakes_holds : Rows.HeapMakesSaid := Hp.heapMakes_holds
end Go.Proofs.Ytfljbiobiobamab
