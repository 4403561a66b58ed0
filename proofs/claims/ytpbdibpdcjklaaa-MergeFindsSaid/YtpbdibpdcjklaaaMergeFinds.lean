/-
  MergeFinds: merge.Right and merge.Find answer as the reference does, for every list of tables and every key. Conditions: none.
-/
import Derived.Test.YtpbdibpdcjklaaaMrgW3
import Derived.Test.YtpbdibpdcjklaaaParse
namespace Go.Proofs.Ytpbdibpdcjklaaa
open Go.ChangeShapes Go.WideShapes Go.ChangeAt Go.RowKit
set_option linter.unusedVariables false
namespace Mrg

set_option maxHeartbeats 1600000 in
theorem mergeFinds_walk (A : Option Addr) (n c : Nat) (L : List Tb) (key : Int) (w : World) (hr : Rd w w.heap.size 1 A n (L.flatMap Tb.cells)) (hl : L.length = n) (hn : n ≤ 9223372036854775807) (hq : ∀ t ∈ L, t.ok w) :
    Calls Try.prog 5 #[.slice A n c, .int .i64 key] w (Ret w (.bool true)) := by
  have c1 := Lib.hid (fun w' (hb' : Below w.heap.size w w') => find_any A n c L key w' ((hr.below hb').more hb'.size) hl hn (fun t ht => ok_later (hq t ht) hb'))
  have c2 := Lib.hid (fun w' (hb' : Below w.heap.size w w') => zfind_any A n c L key w' ((hr.below hb').more hb'.size) hl hn (fun t ht => ok_later (hq t ht) hb'))
  have HR := Lib.hid hr
  have HL := Lib.hid hl
  have HQ := Lib.hid hq
  clear hr hl hq
  generalize findE key (L.map Tb.cs) = p at c1 c2
  obtain ⟨p1, p2⟩ := p
  unfold pairV at c1 c2
  simp only at c1 c2
  go_enter Try.func5, Try.ntmps5
  go_wp2_with fail
  refine (c1.out _ (Below.refl _ _)).mono ?_; rintro e w1 ⟨rfl, hb1⟩
  go_wp2_with fail
  refine (c2.out _ hb1).mono ?_; rintro e w2 ⟨rfl, hb2⟩
  have hB2 := hb1.trans (hb2.mono hb1.size)
  clear c1 c2 hb1 hb2
  go_wp2_with fail
  go_loopg [25] n (fun g i wr => ∃ k : Nat, k ≤ n ∧ g = n - k ∧ i = .int .i64 k ∧ Below w.heap.size w wr)
  case atStart => exact ⟨0, Nat.zero_le _, rfl, rfl, hB2⟩
  case round =>
    obtain ⟨k, hk, rfl, rfl, hB⟩ := hrel
    by_cases hlt : k < n
    · obtain ⟨b, off, rfl, hbb, hc⟩ := HR.out.at_ Tb.len (by omega)
      obtain ⟨t, ht⟩ : ∃ t, L[k]? = some t := ⟨_, List.getElem?_eq_getElem (by rw [HL.out]; exact hlt)⟩
      have q0 : wr.cell? ⟨b, off + k, none⟩ = some (.slice t.A t.n t.c) := (hB.cell hbb).trans (by have := hc k 0 t _ ht rfl; simpa using this)
      obtain ⟨bb, hbi⟩ : ∃ bb : Bool, bb = true ↔ Rt t.cs := by
        by_cases h : Rt t.cs
        · exact ⟨true, rt_iff_true h⟩
        · exact ⟨false, rt_iff_false h⟩
      have cR := Lib.hid (fun w' (hb' : Below w.heap.size w w') => have h := ok_later (HQ.out t (List.mem_of_getElem? ht)) hb'; right_is t.A t.n t.c t.cs bb w' h.1 h.2.1 h.2.2 hbi)
      have cZ := Lib.hid (fun w' (hb' : Below w.heap.size w w') => have h := ok_later (HQ.out t (List.mem_of_getElem? ht)) hb'; zright_is t.A t.n t.c t.cs bb w' h.1 h.2.1 h.2.2 hbi)
      clear hc ht hbi
      go_wp2_with fail
      refine (cR.out _ hB).mono ?_; rintro e w3 ⟨rfl, hb3⟩
      have hB3 := hB.trans (hb3.mono hB.size)
      go_wp2_with fail
      refine (cZ.out _ hB3).mono ?_; rintro e w4 ⟨rfl, hb4⟩
      have hB4 := hB3.trans (hb4.mono hB3.size)
      clear cR cZ
      cases bb
      all_goals
        go_wp2
        go_roundg (n - (k + 1))
        case measure => omega
        case rel => exact ⟨k + 1, by omega, rfl, by go_num, hB4⟩
    · go_wp2
      go_ret
      exact Ret.mk (bool_eq (by simp)) hB

theorem cell_cells : Try.prog.cellsOf 49 = 3 := by kernel_rfl
theorem table_cells : Try.prog.cellsOf 45 = 1 := by kernel_rfl
theorem cell_parse {H : Type} {enc : TypeId × Value → H} {w : World} {base : Nat} {spare : Nat → Bool} {held : Bool} (n : Nat) (cs : List Value) (y : DataW H × List MemPlace)
    (h : DataW.trod enc Try.prog w base spare held n 49 cs = some y) : ∃ x : C, cs = x.cells ∧ True := by
  obtain ⟨hl, m, hf⟩ := parse_fields Try.underlying49 (by kernel_rfl) (by kernel_rfl) h
  obtain ⟨v0, z0, e0, t0⟩ := hf 0 _ rfl
  obtain ⟨v1, z1, e1, t1⟩ := hf 1 _ rfl
  obtain ⟨v2, z2, e2, t2⟩ := hf 2 _ rfl
  obtain ⟨a, rfl, _⟩ := parse_int Try.underlying3 t0
  obtain ⟨d, rfl, _⟩ := parse_int Try.underlying3 t1
  obtain ⟨b, rfl⟩ := parse_bool Try.underlying4 t2
  match cs, hl with
  | [c0, c1, c2], _ =>
    simp at e0 e1 e2
    subst e0 e1 e2
    exact ⟨⟨a, d, b⟩, rfl, trivial⟩
theorem table_parse {H : Type} {enc : TypeId × Value → H} {w : World} {base : Nat} {spare : Nat → Bool} {held : Bool} (n : Nat) (cs : List Value) (y : DataW H × List MemPlace)
    (h : DataW.trod enc Try.prog w base spare held n 45 cs = some y) : ∃ x : Tb, cs = x.cells ∧ x.ok w := by
  obtain ⟨A, m, cap, l, hcs, hl, hnc, hcm, _, hrd, hQ, _⟩ := open_list C.cells (fun _ => True) Try.underlying45 cell_cells C.len (by omega) cell_parse h
  unfold maxLen at hcm
  exact ⟨⟨A, m, cap, l⟩, hcs, hrd, hl, by simp only; omega⟩

set_option maxRecDepth 100000 in
set_option maxHeartbeats 400000 in
theorem mergeFinds_lifted (os : Os) (started : os.Started) (H : Type) (enc : TypeId × Value → H) :
    ReturnsInHanded {} Try.checked os 5 .any (Rows.mergeFindsSpec.pre6 enc Try.prog Try.f5 Rows.mergeFindsRow.domain false)
      (Rows.mergeFindsSpec.post enc Try.prog Try.f5 false true false false) := by
  refine returnsInHanded_of_change (C := Try.checked) own started (by kernel_rfl) Try.func5
    (ChangeSpec.witness6 (enc := enc) (C := Try.checked) false ⟨#[], #[.slice none 0 0, .int .i64 0], []⟩ 8 (by kernel_rfl) (by kernel_rfl) (by kernel_rfl) (by kernel_rfl)) ?_
  intro W base args ds gs before hval0 hW hcnd _
  have hval : ∀ (j : Nat) t v, Try.f5.params[j]? = some t → args[j]? = some v → Value.okWide Try.prog W .any base t v := hval0
  have hW0 := hW
  obtain ⟨p, q, hA0, hV, _, _, _⟩ := hW
  have hA : DataW.TrodAll enc Try.prog W 0 (fun _ => true) true Try.f5.params.toList args.toList ds p := hA0
  rw [Try.params5] at hA hval
  obtain ⟨v0, vs0, d0, ds0, p0, q0, hargs, rfl, rfl, h0, r0⟩ := trodAll_cons hA
  obtain ⟨v1, vs1, d1, ds1, p1, q1, rfl, rfl, rfl, h1, r1⟩ := trodAll_cons r0
  obtain ⟨rfl, rfl, rfl⟩ := trodAll_nil r1
  obtain rfl : args = #[v0, v1] := by cases args; simp_all
  obtain ⟨key, rfl, rfl, rfl, _⟩ := open_int Try.underlying3 (hval 1 _ v1 rfl rfl) h1
  obtain ⟨fu, hf⟩ := h0
  obtain ⟨A, n, cap, l, hcs, hl, hnc, hcm, _, hrd, hQ, hd⟩ := open_list Tb.cells (fun t => t.ok W) Try.underlying42 table_cells Tb.len (by omega) table_parse hf
  obtain rfl := slice_of hcs (okWide_slice Try.underlying42 (hval 0 _ v0 rfl rfl))
  unfold maxLen at hcm
  refine (mergeFinds_walk A n cap l key W hrd hl (by omega) hQ).mono fun e W' ⟨he, hg⟩ => ⟨_, he, ?_⟩
  exact law_post laidOut Try.underlying4 rfl rfl (by kernel_rfl) (fun xs hx => by
    match xs, hx with
    | [_, _], _ => rfl) hW0 hg

theorem mergeFinds_over : Rows.mergeFindsRow.holds Try.pinned (OpenSpec.ofChange Rows.mergeFindsSpec) :=
  OpenClaim.holds_of_wide 5 Try.f5 rfl rfl rfl rfl rfl rfl rfl ⟨rfl, rfl, rfl, rfl, rfl⟩ rfl rfl rfl rfl rfl (by kernel_rfl) Try.func5 (by kernel_rfl)
    (of_decide_eq_true (by kernel_rfl)) (by unfold Func.isWrapper; first | (rw [if_pos (by decide +kernel)]; kernel_rfl) | (rw [if_neg (by decide +kernel)]; exact ⟨rfl, rfl⟩))
    (fun os started H enc _ => mergeFinds_lifted os started H enc)
end Mrg
theorem mergeFinds_holds : Rows.MergeFindsSaid := Mrg.mergeFinds_over
end Go.Proofs.Ytpbdibpdcjklaaa
