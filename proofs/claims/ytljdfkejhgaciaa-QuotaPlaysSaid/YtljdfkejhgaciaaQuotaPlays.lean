/-
  QuotaPlays: quota.Play answers as the reference does, for every list of operations. Conditions: none.
-/
import Derived.Test.YtljdfkejhgaciaaQuotaW4
import Derived.Test.YtljdfkejhgaciaaParse
import Derived.Test.YtljdfkejhgaciaaParse2
import Derived.Test.YtljdfkejhgaciaaEq
import Derived.Test.YtljdfkejhgaciaaRowG
import Derived.Test.YtljdfkejhgaciaaReach
namespace Go.Proofs.Ytljdfkejhgaciaa
open Go.ChangeShapes Go.WideShapes Go.ChangeAt Go.RowKit
set_option linter.unusedVariables false
namespace Quota

set_option maxHeartbeats 800000 in
theorem equal_any (A A' : Option Addr) (n c c' : Nat) (l : List Int) (w : World) (hr : Rd w w.heap.size 1 A n (l.flatMap icell)) (hr' : Rd w w.heap.size 1 A' n (l.flatMap icell)) (hl : l.length = n) (hn : n ≤ 9223372036854775807) :
    Calls Try.prog 28 #[.slice A n c, .slice A' n c'] w (Ret w (.bool true)) := by
  have HR := Lib.hid hr
  have HR' := Lib.hid hr'
  have HL := Lib.hid hl
  clear hr hr' hl
  go_enter Try.func28, Try.ntmps28
  go_wp2
  go_loopg [13] n (fun g i wr => ∃ k : Nat, k ≤ n ∧ g = n - k ∧ i = .int .i64 k ∧ Below w.heap.size w wr)
  case atStart => exact ⟨0, Nat.zero_le _, rfl, rfl, Below.refl _ _⟩
  case round =>
    obtain ⟨k, hk, rfl, rfl, hB⟩ := hrel
    by_cases hlt : k < n
    · obtain ⟨b, off, rfl, hb, hc⟩ := HR.out.at_ icell_len (by omega)
      obtain ⟨b', off', rfl, hb', hc'⟩ := HR'.out.at_ icell_len (by omega)
      obtain ⟨y, hy⟩ : ∃ y, l[k]? = some y := ⟨_, List.getElem?_eq_getElem (by rw [HL.out]; exact hlt)⟩
      have d1 : ∀ z : LaterOf wr, z.w.cell? ⟨b, off + k, none⟩ = some (.int .i64 y) := fun z => z.cell ((hB.cell hb).trans (by have := hc k 0 y _ hy rfl; simpa using this))
      have d2 : ∀ z : LaterOf wr, z.w.cell? ⟨b', off' + k, none⟩ = some (.int .i64 y) := fun z => z.cell ((hB.cell hb').trans (by have := hc' k 0 y _ hy rfl; simpa using this))
      clear hc hc' hy
      have i0 : (0 : Int) ≤ (k : Int) := by omega
      have i1 : (k : Int) < (n : Int) := by omega
      go_upto_region 6 with (fail)
      refine wp_region_later (by kernel_rfl) (by kernel_rfl) ?_
      repeat (go_big_quiet_step (fail))
      refine wpQuiet_nil ?_; intro xw hw'; obtain ⟨xq, hw''⟩ := hw'; obtain ⟨xw0, xh⟩ := xq; change xw = xw0 at hw''; subst hw''
      go_wp2
      go_roundg (n - (k + 1))
      case measure => omega
      case rel => exact ⟨k + 1, by omega, rfl, by go_num, hB.trans (xh.mono hB.size)⟩
    · go_wp2
      go_ret
      exact Ret.mk rfl hB

theorem list12 {l : List Int} (h : l.length = 12) : ∃ a0 a1 a2 a3 a4 a5 a6 a7 a8 a9 a10 a11, l = [a0, a1, a2, a3, a4, a5, a6, a7, a8, a9, a10, a11] := by
  match l, h with
  | [a0, a1, a2, a3, a4, a5, a6, a7, a8, a9, a10, a11], _ => exact ⟨_, _, _, _, _, _, _, _, _, _, _, _, rfl⟩
theorem self12 {l : List Int} (h : l.length = 12) : selfB Try.prog 10000 58 (.agg (l.flatMap icell).toArray) = true := by
  obtain ⟨a0, a1, a2, a3, a4, a5, a6, a7, a8, a9, a10, a11, rfl⟩ := list12 h
  kernel_rfl
theorem eq12 {l : List Int} (h : l.length = 12) (w : World) : (binOp .eql 58 (.agg (l.flatMap icell).toArray) (.agg (l.flatMap icell).toArray)).run Try.prog w = .ok (.bool true) w := run_eql_self _ _ w (self12 h)

set_option maxHeartbeats 1600000 in
theorem quotaPlays_walk (A : Option Addr) (n c : Nat) (ops : List Q) (w : World) (hr : Rd w w.heap.size 4 A n (ops.flatMap Q.cells)) (hops : ops.length = n) (hn : n * 32 ≤ 140737488351232) :
    Calls Try.prog 8 #[.slice A n c] w (Ret w (.bool true)) := by
  obtain ⟨ES, lf, hP, hlf, hes⟩ := plays_ex ops zero12 zero12_ok
  have kR : ∀ w', Below w.heap.size w w' → Rd w' w'.heap.size 4 A n (ops.flatMap Q.cells) := fun w' hb' => (hr.below hb').more hb'.size
  have c1 := Lib.hid (fun w' hb' => play_any A n c ops ES lf w' (kR w' hb') hops hn hP hlf hes)
  have c2 := Lib.hid (fun w' hb' => splay_any A n c ops ES lf w' (kR w' hb') hops hn hP hlf hes)
  have E1 := fun W => eq12 hlf W
  have HLF := Lib.hid hlf
  have hel : ES.length = n := by rw [hes, hops]
  have HEL := Lib.hid hel
  clear hr kR hops hP hlf hes hel
  go_enter Try.func8, Try.ntmps8
  go_wp2_with fail
  refine (c1.out _ (Below.refl _ _)).mono ?_; rintro e w1 ⟨v1, rfl, ho1, hb1⟩
  obtain ⟨A1, q1, rfl⟩ := own_slice ho1
  have R1 := Lib.hid (Rd.of_own ho1)
  have F4 : Hid (Blk (w1.alloc (.cells (zero12.flatMap icell).toArray 58)) w1.heap.size 58 (zero12.flatMap icell)) := Lib.hid (Blk.new w1 _ _)
  go_upto_region 2 with (refine wpList_store_row rfl 58 (.tmp 4) (.tmp 11) rfl w1.heap.size (lf.flatMap icell).toArray rfl rfl 58 (zero12.flatMap icell).toArray F4.out (size12' HLF.out) (by rw [List.size_toArray, List.size_toArray, icell_size, icell_size, HLF.out]; rfl) (icell_one lf) ?_)
  have F4a := Lib.hid (F4.out.row (lf.flatMap icell))
  have hBa := below_row (hb1.alloc hb1.size (.cells (zero12.flatMap icell).toArray 58)) hb1.size (lf.flatMap icell).toArray
  have R1a := Lib.hid ((R1.out.below' (below_row ((Below.refl w1.heap.size w1).alloc (Nat.le_refl _) (.cells (zero12.flatMap icell).toArray 58)) (Nat.le_refl _) (lf.flatMap icell).toArray) (Nat.le_refl _)))
  have hl4 := F4a.out.lt
  clear ho1 R1 F4
  generalize g4e : w1.heap.size = g4 at F4a hBa R1a hl4 ⊢
  have G : ((w1.alloc (.cells #[.int .i64 0, .int .i64 0, .int .i64 0, .int .i64 0, .int .i64 0, .int .i64 0, .int .i64 0, .int .i64 0, .int .i64 0, .int .i64 0, .int .i64 0, .int .i64 0] 58)).setRow g4 (lf.flatMap icell).toArray) = ((w1.alloc (.cells (zero12.flatMap icell).toArray 58)).setRow g4 (lf.flatMap icell).toArray) := rfl
  rw [G]
  clear G
  generalize hwa : ((w1.alloc (.cells (zero12.flatMap icell).toArray 58)).setRow g4 (lf.flatMap icell).toArray) = wa at F4a hBa R1a hl4 ⊢
  clear hwa
  go_wp2_with fail
  refine (c2.out _ hBa).mono ?_; rintro e w2 ⟨v2, rfl, ho2, hb2⟩
  obtain ⟨A2, q2, rfl⟩ := own_slice ho2
  have R2 := Lib.hid (Rd.of_own ho2)
  have R1b := Lib.hid (R1a.out.below' hb2 (Nat.le_of_lt hl4))
  have F4b := Lib.hid (F4a.out.later hb2)
  have hB2 := hBa.trans (hb2.mono hBa.size)
  have F6 : Hid (Blk (w2.alloc (.cells (zero12.flatMap icell).toArray 58)) w2.heap.size 58 (zero12.flatMap icell)) := Lib.hid (Blk.new w2 _ _)
  have hl2 := F4b.out.lt
  go_upto_region 3 with (refine wpList_store_row rfl 58 (.tmp 6) (.tmp 16) rfl w2.heap.size (lf.flatMap icell).toArray rfl rfl 58 (zero12.flatMap icell).toArray F6.out (size12' HLF.out) (by rw [List.size_toArray, List.size_toArray, icell_size, icell_size, HLF.out]; rfl) (icell_one lf) ?_)
  have F6a := Lib.hid (F6.out.row (lf.flatMap icell))
  have F4c := Lib.hid ((F4b.out.alloc (.cells (zero12.flatMap icell).toArray 58)).rowOther (g' := w2.heap.size) (by omega) (lf.flatMap icell).toArray)
  have hbx := below_row ((Below.refl w2.heap.size w2).alloc (Nat.le_refl _) (.cells (zero12.flatMap icell).toArray 58)) (Nat.le_refl _) (lf.flatMap icell).toArray
  have hBb := hB2.trans (hbx.mono hB2.size)
  have R1c := Lib.hid (R1b.out.below' hbx (by omega))
  have R2c := Lib.hid (R2.out.below' hbx (Nat.le_refl _))
  have hl6 := F6a.out.lt
  clear ho2 R2 R1b F4b F6 hbx R1a F4a
  generalize g6e : w2.heap.size = g6 at F6a F4c hBb R1c R2c hl6 hl2 ⊢
  have G : ((w2.alloc (.cells #[.int .i64 0, .int .i64 0, .int .i64 0, .int .i64 0, .int .i64 0, .int .i64 0, .int .i64 0, .int .i64 0, .int .i64 0, .int .i64 0, .int .i64 0, .int .i64 0] 58)).setRow g6 (lf.flatMap icell).toArray) = ((w2.alloc (.cells (zero12.flatMap icell).toArray 58)).setRow g6 (lf.flatMap icell).toArray) := rfl
  rw [G]
  clear G
  generalize hwb : ((w2.alloc (.cells (zero12.flatMap icell).toArray 58)).setRow g6 (lf.flatMap icell).toArray) = wb at F6a F4c hBb R1c R2c hl6 ⊢
  clear hwb
  rw [HEL.out] at R1c R2c ⊢
  have c3 := Lib.hid (equal_any A1 A2 n q1 q2 ES wb (R1c.out.more (by omega)) (R2c.out.more (by omega)) HEL.out (by omega))
  go_wp2_with fail
  refine c3.out.mono ?_; rintro e w3 ⟨rfl, hb3⟩
  have F4d := Lib.hid (F4c.out.later hb3)
  have F6d := Lib.hid (F6a.out.later hb3)
  have hB3 := hBb.trans (hb3.mono hBb.size)
  go_wp2_with (first
    | refine wpList_load_row_g rfl 58 (.tmp 4) rfl g4 rfl 58 (lf.flatMap icell).toArray (0, 0) (.array 6 57) F4d.out Try.underlying58 rfl (size12' HLF.out) ?_
    | refine wpList_load_row_g rfl 58 (.tmp 6) rfl g6 rfl 58 (lf.flatMap icell).toArray (0, 0) (.array 6 57) F6d.out Try.underlying58 rfl (size12' HLF.out) ?_)
  go_ret
  exact Ret.mk rfl hB3

theorem op_cells : Try.prog.cellsOf 76 = 4 := by kernel_rfl
theorem op_bytes : Try.prog.bytesOf 76 = 32 := by kernel_rfl
theorem op_parse {H : Type} {enc : TypeId × Value → H} {w : World} {base : Nat} {spare : Nat → Bool} {held : Bool} (n : Nat) (cs : List Value) (y : DataW H × List MemPlace)
    (h : DataW.trod enc Try.prog w base spare held n 76 cs = some y) : ∃ x : Q, cs = x.cells ∧ True := by
  obtain ⟨hl, m, hf⟩ := parse_fields Try.underlying76 (by kernel_rfl) (by kernel_rfl) h
  obtain ⟨v0, z0, e0, t0⟩ := hf 0 _ rfl
  obtain ⟨v1, z1, e1, t1⟩ := hf 1 _ rfl
  obtain ⟨v2, z2, e2, t2⟩ := hf 2 _ rfl
  obtain ⟨v3, z3, e3, t3⟩ := hf 3 _ rfl
  obtain ⟨a, rfl, _⟩ := parse_int Try.underlying3 t0
  obtain ⟨b, rfl, _⟩ := parse_int Try.underlying3 t1
  obtain ⟨c, rfl, _⟩ := parse_int Try.underlying3 t2
  obtain ⟨d, rfl, _⟩ := parse_int Try.underlying3 t3
  match cs, hl with
  | [c0, c1, c2, c3], _ =>
    simp at e0 e1 e2 e3
    subst e0 e1 e2 e3
    exact ⟨⟨a, b, c, d⟩, rfl, trivial⟩

set_option maxRecDepth 100000 in
set_option maxHeartbeats 400000 in
theorem quotaPlays_lifted (os : Os) (started : os.Started) (H : Type) (enc : TypeId × Value → H) :
    ReturnsInHanded {} Try.checked os 8 .any (Rows.quotaPlaysSpec.pre6 enc Try.prog Try.f8 Rows.quotaPlaysRow.domain false)
      (Rows.quotaPlaysSpec.post enc Try.prog Try.f8 false true false false) := by
  refine returnsInHanded_of_change_sized (C := Try.checked) own started (by kernel_rfl) Try.func8
    (ChangeSpec.witness6 (enc := enc) (C := Try.checked) false ⟨#[], #[.slice none 0 0], []⟩ 8 (by kernel_rfl) (by kernel_rfl) (by kernel_rfl) (by kernel_rfl)) ?_
  intro W base args ds gs before hval0 hW hcnd hsz0 _
  have hval : ∀ (j : Nat) t v, Try.f8.params[j]? = some t → args[j]? = some v → Value.okWide Try.prog W .any base t v := hval0
  have hsz : (DataW.weightsEach Try.prog (Try.f8.params.toList ++ Rows.quotaPlaysSpec.plain.varTypes Try.prog) (ds ++ gs)).all (· ≤ reachBytes) = true := hsz0
  have hW0 := hW
  obtain ⟨p, q, hA0, hV, _, _, _⟩ := hW
  have hA : DataW.TrodAll enc Try.prog W 0 (fun _ => true) true Try.f8.params.toList args.toList ds p := hA0
  rw [Try.params8] at hA hval hsz
  obtain ⟨v0, vs0, d0, ds0, p0, q0, hargs, rfl, rfl, h0, r0⟩ := trodAll_cons hA
  obtain ⟨rfl, rfl, rfl⟩ := trodAll_nil r0
  obtain rfl : args = #[v0] := by cases args; simp_all
  obtain ⟨fu, hf⟩ := h0
  obtain ⟨A, n, cap, l, hcs, hl, hnc, hcm, _, hrd, hQ, hd⟩ := open_list Q.cells (fun _ => True) Try.underlying56 op_cells Q.len (by omega) op_parse hf
  obtain rfl := slice_of hcs (okWide_slice Try.underlying56 (hval 0 _ v0 rfl rfl))
  have hn := reach_of hsz (j := 0) rfl rfl Try.underlying56 op_bytes hd
  refine (quotaPlays_walk A n cap l W hrd hl hn).mono fun e W' ⟨he, hg⟩ => ⟨_, he, ?_⟩
  exact law_post laidOut Try.underlying4 rfl rfl (by kernel_rfl) (fun xs hx => by
    match xs, hx with
    | [_], _ => rfl) hW0 hg

theorem quotaPlays_over : Rows.quotaPlaysRow.holds Try.pinned (OpenSpec.ofChange Rows.quotaPlaysSpec) :=
  OpenClaim.holds_of_wide 8 Try.f8 rfl rfl rfl rfl rfl rfl rfl ⟨rfl, rfl, rfl, rfl, rfl⟩ rfl rfl rfl rfl rfl (by kernel_rfl) Try.func8 (by kernel_rfl)
    (of_decide_eq_true (by kernel_rfl)) (by unfold Func.isWrapper; first | (rw [if_pos (by decide +kernel)]; kernel_rfl) | (rw [if_neg (by decide +kernel)]; exact ⟨rfl, rfl⟩))
    (fun os started H enc _ => quotaPlays_lifted os started H enc)
end Quota
theorem quotaPlays_holds : Rows.QuotaPlaysSaid := Quota.quotaPlays_over
end Go.Proofs.Ytljdfkejhgaciaa
