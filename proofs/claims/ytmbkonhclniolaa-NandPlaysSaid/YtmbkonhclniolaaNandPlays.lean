/-
  NandPlays: nand.Play answers as the reference does, for every list of operations. Conditions: none.
-/
import Derived.Test.YtmbkonhclniolaaNandSteps
import Derived.Test.YtmbkonhclniolaaReach
namespace Go.Proofs.Ytmbkonhclniolaa
open Go.ChangeShapes Go.WideShapes Go.ChangeAt Go.RowKit
set_option linter.unusedVariables false
namespace Nd

set_option maxHeartbeats 800000 in
theorem equal_errs (A A' : Option Addr) (n c c' : Nat) (l : List Int) (w : World) (hr : Rd w w.heap.size 1 A n (l.flatMap icell)) (hr' : Rd w w.heap.size 1 A' n (l.flatMap icell)) (hl : l.length = n) (hn : n ≤ 9223372036854775807) :
    Calls Try.prog 17 #[.slice A n c, .slice A' n c'] w (Ret w (.bool true)) := by
  have HR := Lib.hid hr
  have HR' := Lib.hid hr'
  have HL := Lib.hid hl
  clear hr hr' hl
  go_enter Try.func17, Try.ntmps17
  go_wp2
  go_loopg [13] n (fun g i wr => ∃ k : Nat, k ≤ n ∧ g = n - k ∧ i = .int .i64 k ∧ Below w.heap.size w wr)
  case atStart => exact ⟨0, Nat.zero_le _, rfl, rfl, Below.refl _ _⟩
  case round =>
    obtain ⟨k, hk, rfl, rfl, hB⟩ := hrel
    by_cases hlt : k < n
    · obtain ⟨b, off, rfl, hb, hc⟩ := HR.out.at_ icell_len (by omega)
      obtain ⟨b', off', rfl, hb', hc'⟩ := HR'.out.at_ icell_len (by omega)
      obtain ⟨y, hy⟩ : ∃ y, l[k]? = some y := ⟨_, List.getElem?_eq_getElem (by rw [HL.out]; exact hlt)⟩
      have d1 : ∀ z : LaterOf wr, z.w.cell? ⟨b, off + k, none⟩ = some (.int .i64 y) := fun z => z.cell ((hB.cell hb).trans (by have := hc k 0 y _ hy rfl; simpa using this))
      have d2 : ∀ z : LaterOf wr, z.w.cell? ⟨b', off' + k, none⟩ = some (.int .i64 y) := fun z => z.cell ((hB.cell hb').trans (by have := hc' k 0 y _ hy rfl; simpa using this))
      clear hc hc' hy
      have i0 : (0 : Int) ≤ (k : Int) := by omega
      have i1 : (k : Int) < (n : Int) := by omega
      go_upto_region 6 with (fail)
      refine wp_region_later (by kernel_rfl) (by kernel_rfl) ?_
      repeat (go_big_quiet_step (fail))
      refine wpQuiet_nil ?_; intro xw hw'; obtain ⟨xq, hw''⟩ := hw'; obtain ⟨xw0, xh⟩ := xq; change xw = xw0 at hw''; subst hw''
      go_wp2
      go_roundg (n - (k + 1))
      case measure => omega
      case rel => exact ⟨k + 1, by omega, rfl, by go_num, hB.trans (xh.mono hB.size)⟩
    · go_wp2
      go_ret
      exact Ret.mk rfl hB
set_option maxHeartbeats 800000 in
theorem equal_ints (A A' : Option Addr) (n c c' : Nat) (l : List Int) (w : World) (hr : Rd w w.heap.size 1 A n (l.flatMap icell)) (hr' : Rd w w.heap.size 1 A' n (l.flatMap icell)) (hl : l.length = n) (hn : n ≤ 9223372036854775807) :
    Calls Try.prog 18 #[.slice A n c, .slice A' n c'] w (Ret w (.bool true)) := by
  have HR := Lib.hid hr
  have HR' := Lib.hid hr'
  have HL := Lib.hid hl
  clear hr hr' hl
  go_enter Try.func18, Try.ntmps18
  go_wp2
  go_loopg [13] n (fun g i wr => ∃ k : Nat, k ≤ n ∧ g = n - k ∧ i = .int .i64 k ∧ Below w.heap.size w wr)
  case atStart => exact ⟨0, Nat.zero_le _, rfl, rfl, Below.refl _ _⟩
  case round =>
    obtain ⟨k, hk, rfl, rfl, hB⟩ := hrel
    by_cases hlt : k < n
    · obtain ⟨b, off, rfl, hb, hc⟩ := HR.out.at_ icell_len (by omega)
      obtain ⟨b', off', rfl, hb', hc'⟩ := HR'.out.at_ icell_len (by omega)
      obtain ⟨y, hy⟩ : ∃ y, l[k]? = some y := ⟨_, List.getElem?_eq_getElem (by rw [HL.out]; exact hlt)⟩
      have d1 : ∀ z : LaterOf wr, z.w.cell? ⟨b, off + k, none⟩ = some (.int .i64 y) := fun z => z.cell ((hB.cell hb).trans (by have := hc k 0 y _ hy rfl; simpa using this))
      have d2 : ∀ z : LaterOf wr, z.w.cell? ⟨b', off' + k, none⟩ = some (.int .i64 y) := fun z => z.cell ((hB.cell hb').trans (by have := hc' k 0 y _ hy rfl; simpa using this))
      clear hc hc' hy
      have i0 : (0 : Int) ≤ (k : Int) := by omega
      have i1 : (k : Int) < (n : Int) := by omega
      go_upto_region 6 with (fail)
      refine wp_region_later (by kernel_rfl) (by kernel_rfl) ?_
      repeat (go_big_quiet_step (fail))
      refine wpQuiet_nil ?_; intro xw hw'; obtain ⟨xq, hw''⟩ := hw'; obtain ⟨xw0, xh⟩ := xq; change xw = xw0 at hw''; subst hw''
      go_wp2
      go_roundg (n - (k + 1))
      case measure => omega
      case rel => exact ⟨k + 1, by omega, rfl, by go_num, hB.trans (xh.mono hB.size)⟩
    · go_wp2
      go_ret
      exact Ret.mk rfl hB

set_option maxRecDepth 100000 in
set_option maxHeartbeats 3200000 in
theorem nandPlays_walk (A : Option Addr) (n c : Nat) (ops : List Op) (w : World) (hr : Rd w w.heap.size 4 A n (ops.flatMap Op.cells)) (hl : ops.length = n) (hn : n * 32 ≤ 140737488351232) :
    Calls Try.prog 4 #[.slice A n c] w (Ret w (.bool true)) := by
  obtain ⟨es, rs, lf, hp, he, hrs, hlf⟩ := plays_ex ops new8 rt_new
  have c1 := Lib.hid (play_any A n c ops es rs lf w hr hl hn hp)
  have c2 := Lib.hid (fun W (hW : Below w.heap.size w W) => dplay_any A n c ops es rs lf W (hr.later hW) hl hn hp)
  have HLF := Lib.hid hlf
  have hen : es.length ≤ 9223372036854775807 := by omega
  have hrn : rs.length ≤ 9223372036854775807 := by omega
  clear hr hl hp he hrs hlf
  go_enter Try.func4, Try.ntmps4
  go_wp2_with fail
  refine c1.out.mono ?_; rintro en w1 ⟨A1, q1, A2, q2, A3, q3, rfl, S1⟩
  have H1 := Lib.hid S1
  clear S1
  go_wp2_with fail
  refine (c2.out _ H1.out.below).mono ?_; rintro en w2 ⟨A4, q4, A5, q5, A6, q6, rfl, S2⟩
  have H2 := Lib.hid (H1.out.join S2)
  clear S2 H1 c1 c2
  obtain ⟨ne, hne⟩ : ∃ ne, ne = es.length := ⟨_, rfl⟩
  obtain ⟨nr, hnr⟩ : ∃ nr, nr = rs.length := ⟨_, rfl⟩
  rw [← hne, ← hnr] at H2 ⊢
  rw [← hne] at hen
  rw [← hnr] at hrn
  have e1 := Lib.hid (equal_errs A1 A4 ne q1 q4 es w2 (H2.out.rd 0 rfl) (H2.out.rd 3 rfl) hne.symm hen)
  have HNR := Lib.hid hnr.symm
  clear hne hnr
  go_wp2_with fail
  refine e1.out.mono ?_; rintro en w3 ⟨rfl, hb3⟩
  have H3 := Lib.hid (H2.out.later hb3)
  clear H2 hb3 e1
  have e2 := Lib.hid (equal_ints A2 A5 nr q2 q5 rs w3 (H3.out.rd 1 rfl) (H3.out.rd 4 rfl) HNR.out hrn)
  go_wp2_with fail
  refine e2.out.mono ?_; rintro en w4 ⟨rfl, hb4⟩
  have H4 := Lib.hid (H3.out.later hb4)
  clear H3 hb4 e2
  have e3 := Lib.hid (equal_blocks A3 A6 8 q3 q6 lf w4 (H4.out.rd 2 rfl) (H4.out.rd 5 rfl) HLF.out (by omega))
  go_wp2_with fail
  refine e3.out.mono ?_; rintro en w5 ⟨rfl, hb5⟩
  have H5 := Lib.hid (H4.out.later hb5)
  clear H4 hb5 e3
  go_wp2
  go_ret
  exact Ret.mk rfl H5.out.below

set_option maxRecDepth 100000 in
set_option maxHeartbeats 400000 in
theorem nandPlays_lifted (os : Os) (started : os.Started) (H : Type) (enc : TypeId × Value → H) :
    ReturnsInHanded {} Try.checked os 4 .any (Rows.nandPlaysSpec.pre6 enc Try.prog Try.f4 Rows.nandPlaysRow.domain false)
      (Rows.nandPlaysSpec.post enc Try.prog Try.f4 false true false false) := by
  refine returnsInHanded_of_change_sized (C := Try.checked) own started (by kernel_rfl) Try.func4
    (ChangeSpec.witness6 (enc := enc) (C := Try.checked) false ⟨#[], #[.slice none 0 0], []⟩ 8 (by kernel_rfl) (by kernel_rfl) (by kernel_rfl) (by kernel_rfl)) ?_
  intro W base args ds gs before hval0 hW hcnd hsz0 _
  have hval : ∀ (j : Nat) t v, Try.f4.params[j]? = some t → args[j]? = some v → Value.okWide Try.prog W .any base t v := hval0
  have hsz : (DataW.weightsEach Try.prog (Try.f4.params.toList ++ Rows.nandPlaysSpec.plain.varTypes Try.prog) (ds ++ gs)).all (· ≤ reachBytes) = true := hsz0
  have hW0 := hW
  obtain ⟨p, q, hA0, hV, _, _, _⟩ := hW
  have hA : DataW.TrodAll enc Try.prog W 0 (fun _ => true) true Try.f4.params.toList args.toList ds p := hA0
  rw [Try.params4] at hA hval hsz
  obtain ⟨v0, vs0, d0, ds0, p0, q0, hargs, rfl, rfl, h0, r0⟩ := trodAll_cons hA
  obtain ⟨rfl, rfl, rfl⟩ := trodAll_nil r0
  obtain rfl : args = #[v0] := by cases args; simp_all
  obtain ⟨fu, hf⟩ := h0
  obtain ⟨A, n, cap, l, hcs, hl, hnc, hcm, _, hrd, hQ, hd⟩ := open_list Op.cells (fun _ => True) Try.underlying35 op_cells Op.len (by omega) op_parse hf
  obtain rfl := slice_of hcs (okWide_slice Try.underlying35 (hval 0 _ v0 rfl rfl))
  have hn := reach_of hsz (j := 0) rfl rfl Try.underlying35 op_bytes hd
  refine (nandPlays_walk A n cap l W hrd hl hn).mono fun e W' ⟨he, hg⟩ => ⟨_, he, ?_⟩
  exact law_post laidOut Try.underlying4 rfl rfl (by kernel_rfl) (fun xs hx => by
    match xs, hx with
    | [_], _ => rfl) hW0 hg
theorem nandPlays_over : Rows.nandPlaysRow.holds Try.pinned (OpenSpec.ofChange Rows.nandPlaysSpec) :=
  OpenClaim.holds_of_wide 4 Try.f4 rfl rfl rfl rfl rfl rfl rfl ⟨rfl, rfl, rfl, rfl, rfl⟩ rfl rfl rfl rfl rfl (by kernel_rfl) Try.func4 (by kernel_rfl)
    (of_decide_eq_true (by kernel_rfl)) (by unfold Func.isWrapper; first | (rw [if_pos (by decide +kernel)]; kernel_rfl) | (rw [if_neg (by decide +kernel)]; exact ⟨rfl, rfl⟩))
    (fun os started H enc _ => nandPlays_lifted os started H enc)
theorem nandPlays_holds : Rows.NandPlaysSaid := nandPlays_over
end Nd
theorem nandPlays_holds : Rows.NandPlaysSaid := Nd.nandPlays_holds
end Go.Proofs.Ytmbkonhclniolaa
