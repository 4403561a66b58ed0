/-
  RunsFind: runs.Right and runs.Find answer as the reference does, for every list of runs and every block. Conditions: none.
-/
import Derived.Test.YtljdfkejhgaciaaRunsP
import Derived.Test.YtljdfkejhgaciaaParse
namespace Go.Proofs.Ytljdfkejhgaciaa
open Go.ChangeShapes Go.WideShapes Go.ChangeAt Go.RowKit
namespace Runs

theorem run_cells : Try.prog.cellsOf 34 = 3 := by kernel_rfl
def R.wf (r : R) : Prop := I64 r.at_ ∧ I64 r.disk ∧ I64 r.many
theorem run_parse {H : Type} {enc : TypeId × Value → H} {w : World} {base : Nat} {spare : Nat → Bool} {held : Bool} (n : Nat) (cs : List Value) (y : DataW H × List MemPlace)
    (h : DataW.trod enc Try.prog w base spare held n 34 cs = some y) : ∃ x : R, cs = x.cells ∧ x.wf := by
  obtain ⟨hl, m, hf⟩ := parse_fields Try.underlying34 (by kernel_rfl) (by kernel_rfl) h
  obtain ⟨v0, z0, e0, t0⟩ := hf 0 _ rfl
  obtain ⟨v1, z1, e1, t1⟩ := hf 1 _ rfl
  obtain ⟨v2, z2, e2, t2⟩ := hf 2 _ rfl
  obtain ⟨a, rfl, wa⟩ := parse_int Try.underlying3 t0
  obtain ⟨d, rfl, wd⟩ := parse_int Try.underlying3 t1
  obtain ⟨m', rfl, wm⟩ := parse_int Try.underlying3 t2
  match cs, hl with
  | [c0, c1, c2], _ =>
    simp at e0 e1 e2
    subst e0 e1 e2
    exact ⟨⟨a, d, m'⟩, rfl, i64_bounds wa, i64_bounds wd, i64_bounds wm⟩

set_option maxHeartbeats 800000 in
theorem runsFind_walk (A : Option Addr) (n c : Nat) (l : List R) (block : Int) (w : World) (hr : Rd w w.heap.size 3 A n (l.flatMap R.cells)) (hl : l.length = n) (hn : n ≤ 9223372036854775807)
    (hb1 : -9223372036854775808 ≤ block) (hb2 : block ≤ 9223372036854775807) :
    Calls Try.prog 3 #[.slice A n c, .int .i64 block] w (Ret w (.bool true)) := by
  have HR := Lib.hid hr
  clear hr
  have kR : ∀ w', Below w.heap.size w w' → Rd w' w'.heap.size 3 A n (l.flatMap R.cells) := fun w' hb => (HR.out.below hb).more hb.size
  have cF := find_any A n c l block w HR.out hl hn hb1 hb2
  have cR : ∀ w', Below w.heap.size w w' → Calls Try.prog 10 #[.slice A n c] w' (Ret w' (.bool (rightB l))) := fun w' hb => right_any A n c l w' (kR w' hb) hl hn
  have cM : ∀ w', Below w.heap.size w w' → Calls Try.prog 11 #[.slice A n c] w' (Ret w' (.bool (rightB l))) := fun w' hb => by rw [← mr_right]; exact mright_any A n c l w' (kR w' hb) hl hn
  have cN : ∀ w', Below w.heap.size w w' → rightB l = true → Calls Try.prog 12 #[.slice A n c, .int .i64 block] w' (Ret w' (.int .i64 (mfindL block l))) :=
    fun w' hb h => mfind_any A n c l block w' (kR w' hb) hl hn hb1 hb2 (small_of_right h)
  clear kR
  cases hri : rightB l with
  | false =>
    rw [findE_no hri] at cF
    rw [hri] at cR cM
    have HF := Lib.hid cF
    have HCR := Lib.hid cR
    have HM := Lib.hid cM
    clear cF cR cM cN hri
    go_enter Try.func3, Try.ntmps3
    go_wp2_with fail
    refine HF.out.mono ?_; rintro e w1 ⟨rfl, hb1'⟩
    go_wp2_with fail
    refine (HCR.out _ hb1').mono ?_; rintro e w2 ⟨rfl, hb2'⟩
    have hb12 := hb1'.trans (hb2'.mono hb1'.size)
    go_wp2_with fail
    refine (HM.out _ hb12).mono ?_; rintro e w3 ⟨rfl, hb3'⟩
    have hb13 := hb12.trans (hb3'.mono hb12.size)
    go_wp2_with fail
    refine (HM.out _ hb13).mono ?_; rintro e w4 ⟨rfl, hb4'⟩
    have hb14 := hb13.trans (hb4'.mono hb13.size)
    go_wp2
    go_ret
    exact Ret.mk rfl hb14
  | true =>
    have cN' := fun w' hb => cN w' hb hri
    have hsm := small_of_right hri
    cases hf : findL block l with
    | none =>
      rw [findE_miss hri hf] at cF
      rw [hri] at cR cM
      have hm : mfindL block l = -1 := by rw [mfindL, hf]; rfl
      rw [hm] at cN'
      have HF := Lib.hid cF
      have HCR := Lib.hid cR
      have HM := Lib.hid cM
      have HN := Lib.hid cN'
      clear cF cR cM cN cN' hri hf hm hsm
      go_enter Try.func3, Try.ntmps3
      go_wp2_with fail
      refine HF.out.mono ?_; rintro e w1 ⟨rfl, hb1'⟩
      go_wp2_with fail
      refine (HCR.out _ hb1').mono ?_; rintro e w2 ⟨rfl, hb2'⟩
      have hb12 := hb1'.trans (hb2'.mono hb1'.size)
      go_wp2_with fail
      refine (HM.out _ hb12).mono ?_; rintro e w3 ⟨rfl, hb3'⟩
      have hb13 := hb12.trans (hb3'.mono hb12.size)
      go_wp2_with fail
      refine (HM.out _ hb13).mono ?_; rintro e w4 ⟨rfl, hb4'⟩
      have hb14 := hb13.trans (hb4'.mono hb13.size)
      go_wp2_with fail
      refine (HN.out _ hb14).mono ?_; rintro e w5 ⟨rfl, hb5'⟩
      have hb15 := hb14.trans (hb5'.mono hb14.size)
      go_wp2
      go_ret
      exact Ret.mk rfl hb15
    | some d =>
      obtain ⟨hd0, hd1⟩ := findL_range hsm hf
      rw [findE_hit hri hf] at cF
      rw [hri] at cR cM
      have hm : mfindL block l = d := by rw [mfindL, hf]; rfl
      rw [hm] at cN'
      have HF := Lib.hid cF
      have HCR := Lib.hid cR
      have HM := Lib.hid cM
      have HN := Lib.hid cN'
      clear cF cR cM cN cN' hri hf hm hsm
      go_enter Try.func3, Try.ntmps3
      go_wp2_with fail
      refine HF.out.mono ?_; rintro e w1 ⟨rfl, hb1'⟩
      go_wp2_with fail
      refine (HCR.out _ hb1').mono ?_; rintro e w2 ⟨rfl, hb2'⟩
      have hb12 := hb1'.trans (hb2'.mono hb1'.size)
      go_wp2_with fail
      refine (HM.out _ hb12).mono ?_; rintro e w3 ⟨rfl, hb3'⟩
      have hb13 := hb12.trans (hb3'.mono hb12.size)
      go_wp2_with fail
      refine (HM.out _ hb13).mono ?_; rintro e w4 ⟨rfl, hb4'⟩
      have hb14 := hb13.trans (hb4'.mono hb13.size)
      go_wp2_with fail
      refine (HN.out _ hb14).mono ?_; rintro e w5 ⟨rfl, hb5'⟩
      have hb15 := hb14.trans (hb5'.mono hb14.size)
      go_wp2
      go_ret
      exact Ret.mk (bool_eq (by simp)) hb15

set_option maxRecDepth 100000 in
theorem runsFind_lifted (os : Os) (started : os.Started) (H : Type) (enc : TypeId × Value → H) :
    ReturnsInHanded {} Try.checked os 3 .any (Rows.runsFindSpec.pre6 enc Try.prog Try.f3 Rows.runsFindRow.domain false)
      (Rows.runsFindSpec.post enc Try.prog Try.f3 false true false false) := by
  refine returnsInHanded_of_change (C := Try.checked) own started (by kernel_rfl) Try.func3
    (ChangeSpec.witness6 (enc := enc) (C := Try.checked) false ⟨#[], #[.slice none 0 0, .int .i64 0], []⟩ 8 (by kernel_rfl) (by kernel_rfl) (by kernel_rfl) (by kernel_rfl)) ?_
  intro W base args ds gs before hval0 hW hcnd _
  have hval : ∀ (j : Nat) t v, Try.f3.params[j]? = some t → args[j]? = some v → Value.okWide Try.prog W .any base t v := hval0
  have hW0 := hW
  obtain ⟨p, q, hA0, hV, _, _, _⟩ := hW
  have hA : DataW.TrodAll enc Try.prog W 0 (fun _ => true) true Try.f3.params.toList args.toList ds p := hA0
  rw [Try.params3] at hA hval
  obtain ⟨v0, vs0, d0, ds0, p0, q0, hargs, rfl, rfl, h0, r0⟩ := trodAll_cons hA
  obtain ⟨v1, vs1, d1, ds1, p1, q1, rfl, rfl, rfl, h1, r1⟩ := trodAll_cons r0
  obtain ⟨rfl, rfl, rfl⟩ := trodAll_nil r1
  obtain rfl : args = #[v0, v1] := by cases args; simp_all
  obtain ⟨b, rfl, rfl, rfl, wb⟩ := open_int Try.underlying3 (hval 1 _ v1 rfl rfl) h1
  obtain ⟨fu, hf⟩ := h0
  obtain ⟨A, n, cap, l, hcs, hl, hnc, hcm, _, hrd, hQ, _⟩ := open_list R.cells R.wf Try.underlying22 run_cells R.len (by omega) run_parse hf
  obtain rfl := slice_of hcs (okWide_slice Try.underlying22 (hval 0 _ v0 rfl rfl))
  have hbb := i64_bounds wb
  unfold maxLen at hcm
  refine (runsFind_walk A n cap l b W hrd hl (by omega) hbb.1 hbb.2).mono fun e W' ⟨he, hg⟩ => ⟨_, he, ?_⟩
  exact law_post laidOut Try.underlying4 rfl rfl (by kernel_rfl) (fun xs hx => by
    match xs, hx with
    | [_, _], _ => rfl) hW0 hg

theorem runsFind_over : Rows.runsFindRow.holds Try.pinned (OpenSpec.ofChange Rows.runsFindSpec) :=
  OpenClaim.holds_of_wide 3 Try.f3 rfl rfl rfl rfl rfl rfl rfl ⟨rfl, rfl, rfl, rfl, rfl⟩ rfl rfl rfl rfl rfl (by kernel_rfl) Try.func3 (by kernel_rfl)
    (of_decide_eq_true (by kernel_rfl)) (by unfold Func.isWrapper; first | (rw [if_pos (by decide +kernel)]; kernel_rfl) | (rw [if_neg (by decide +kernel)]; exact ⟨rfl, rfl⟩))
    (fun os started H enc _ => runsFind_lifted os started H enc)

end Runs
theorem runsFind_holds : Rows.RunsFindSaid := Runs.runsFind_over
end Go.Proofs.Ytljdfkejhgaciaa
