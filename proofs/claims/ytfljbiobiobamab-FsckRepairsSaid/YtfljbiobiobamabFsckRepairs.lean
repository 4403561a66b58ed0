/-
  FsckRepairs: fsck.Repair answers as the reference does, for every size, list of claims and list of marks. Conditions: none.
-/
import Derived.Test.YtfljbiobiobamabFsW3
import Derived.Test.YtfljbiobiobamabParse
namespace Go.Proofs.Ytfljbiobiobamab
open Go.ChangeShapes Go.WideShapes Go.ChangeAt Go.RowKit
set_option linter.unusedVariables false
namespace Fs

set_option maxRecDepth 100000 in
set_option maxHeartbeats 1600000 in
theorem fsckRepairs_walk (z : Int) (A A' : Option Addr) (n c n' c' : Nat) (l : List Cm) (ms : List Int) (w : World) (hr : CL w A n l) (hr' : Rd w w.heap.size 1 A' n' (ms.flatMap icell)) (hl' : ms.length = n') (hn' : n' ≤ 9223372036854775807) :
    Calls Try.prog 6 #[.int .i64 z, .slice A n c, .slice A' n' c'] w (Ret w (.bool true)) := by
  have cU := Lib.hid (fun W (hW : Below w.heap.size w W) => uright_any z A' A n c n' c' ms W (hr'.later hW) hl' hn')
  cases hb : okB z n && rightF z (-1) ms with
  | false =>
    have cR := Lib.hid (repair_bad z A A' n c n' c' ms w hr' hl' hn' hb)
    rw [hb] at cU
    clear hr hr' hl' hb
    go_enter Try.func6, Try.ntmps6
    go_wp2_with fail
    refine cR.out.mono ?_; rintro en w1 ⟨rfl, hb1⟩
    have HB1 := Lib.hid hb1
    clear cR hb1
    go_wp2_with fail
    refine (cU.out w1 HB1.out).mono ?_; rintro en w2 ⟨rfl, hb2⟩
    have HB2 := Lib.hid (HB1.out.trans (hb2.mono HB1.out.size))
    clear cU hb2 HB1
    go_wp2
    go_ret
    exact Ret.mk rfl HB2.out
  | true =>
    have hk : 0 ≤ z ∧ z ≤ 4096 ∧ n ≤ 400 := by
      have := (Bool.and_eq_true _ _ ▸ hb).1
      simp only [okB, Bool.and_eq_true, decide_eq_true_eq] at this
      exact ⟨this.1.1, this.1.2, this.2⟩
    obtain ⟨h0, h1, h2⟩ := hk
    obtain ⟨Z, rfl⟩ : ∃ Z : Nat, z = (Z : Int) := ⟨z.toNat, (Int.toNat_of_nonneg h0).symm⟩
    have hZ : Z ≤ 4096 := by omega
    have cR := Lib.hid (repair_ok Z A A' n c n' c' ms l w hr' hl' hn' hb hr h2 hZ)
    have cV := Lib.hid (fun W (hW : Below w.heap.size w W) => urepair_any Z A n c l W (hr.later hW) h2 hZ)
    rw [hb] at cU
    have hlen := hr.len
    clear hr hr' hl' hb
    have hRL : (rep (Z : Int) [] (l.map Cm.p)).length ≤ 400 := by rw [rep_len, List.length_map, hlen]; exact h2
    have hML : (marks (flat (rep (Z : Int) [] (l.map Cm.p))) Z).length ≤ 4096 := Nat.le_trans (marks_len _ _) hZ
    generalize rep (Z : Int) [] (l.map Cm.p) = R at cR cV hRL hML
    generalize marks (flat R) Z = M at cR cV hML
    have HRL := Lib.hid hRL
    have HML := Lib.hid hML
    clear hRL hML
    go_enter Try.func6, Try.ntmps6
    go_wp2_with fail
    refine cR.out.mono ?_; rintro en w1 ⟨A1, n1, c1, A2, n2, c2, rfl, hp⟩
    have HP := Lib.hid hp
    clear cR hp
    go_wp2_with fail
    refine (cU.out w1 HP.out.1).mono ?_; rintro en w2 ⟨rfl, hb2⟩
    have HB2 := Lib.hid (HP.out.1.trans (hb2.mono HP.out.1.size))
    have Hb2 := Lib.hid hb2
    clear cU hb2
    go_wp2_with fail
    refine (cV.out w2 HB2.out).mono ?_; rintro en w3 ⟨A3, n3, c3, A4, n4, c4, rfl, hq⟩
    have HQ := Lib.hid hq
    clear cV hq
    obtain ⟨outs, hcl, ho⟩ := HP.out.2.1
    obtain ⟨outs', hcl', ho'⟩ := HQ.out.2.1
    have hB3 : Below w1.heap.size w1 w3 := Hb2.out.trans (HQ.out.1.mono Hb2.out.size)
    obtain rfl : n3 = n1 := by rw [← hcl.len, ← hcl'.len, ← List.length_map (f := Cm.p), ho', ← ho, List.length_map]
    obtain rfl : n4 = n2 := by rw [← HP.out.2.2.2, ← HQ.out.2.2.2]
    have hn3 : n3 ≤ 9223372036854775807 := by
      have := HRL.out
      rw [← ho, List.length_map, hcl.len] at this
      omega
    have hn4 : n4 ≤ 9223372036854775807 := by
      have := HML.out
      rw [HP.out.2.2.2] at this
      omega
    have cE := Lib.hid (samec_any A1 A3 n3 c1 c3 outs outs' w3 (hcl.later hB3) hcl' hn3 (ho.trans ho'.symm))
    have cS := Lib.hid (fun W (hW : Below w3.heap.size w3 W) => same_any A2 A4 n4 c2 c4 M W ((HP.out.2.2.1.later hB3).later hW) (HQ.out.2.2.1.later hW) HP.out.2.2.2 hn4)
    have HB3 := Lib.hid (HB2.out.trans (HQ.out.1.mono HB2.out.size))
    clear hcl hcl' ho ho' hB3 HP HQ Hb2 HB2
    go_wp2_with fail
    refine cE.out.mono ?_; rintro en w4 ⟨rfl, hb4⟩
    have HB4 := Lib.hid hb4
    clear cE hb4
    go_wp2_with fail
    refine (cS.out w4 HB4.out).mono ?_; rintro en w5 ⟨rfl, hb5⟩
    have HB5 := Lib.hid (HB4.out.trans (hb5.mono HB4.out.size))
    clear cS hb5 HB4
    go_wp2
    go_ret
    exact Ret.mk rfl (HB3.out.trans (HB5.out.mono HB3.out.size))

theorem int_cells : Try.prog.cellsOf 3 = 1 := by kernel_rfl
theorem int_parse {H : Type} {enc : TypeId × Value → H} {w : World} {base : Nat} {spare : Nat → Bool} {held : Bool} (n : Nat) (cs : List Value) (y : DataW H × List MemPlace)
    (h : DataW.trod enc Try.prog w base spare held n 3 cs = some y) : ∃ x : Int, cs = icell x ∧ True := by
  obtain ⟨n, hn, _, hw⟩ := DataW.trod_int Try.underlying3 h
  exact ⟨n, hn, trivial⟩
theorem claim_cells : Try.prog.cellsOf 67 = 2 := by kernel_rfl
theorem claim_parse {H : Type} {enc : TypeId × Value → H} {w : World} {base : Nat} {spare : Nat → Bool} {held : Bool} (n : Nat) (cs : List Value) (y : DataW H × List MemPlace)
    (h : DataW.trod enc Try.prog w base spare held n 67 cs = some y) : ∃ x : Cm, cs = x.cells ∧ x.ok w := by
  obtain ⟨hl, m, hf⟩ := parse_fields Try.underlying67 (by kernel_rfl) (by kernel_rfl) h
  obtain ⟨v0, z0, e0, t0⟩ := hf 0 _ rfl
  obtain ⟨v1, z1, e1, t1⟩ := hf 1 _ rfl
  obtain ⟨f, rfl, _⟩ := parse_int Try.underlying3 t0
  obtain ⟨A, k, cap, l, hcs, hll, hnc, hcm, _, hrd, _, _⟩ := open_list icell (fun _ => True) Try.underlying37 int_cells icell_len (by omega) int_parse t1
  simp only [List.cons.injEq, and_true] at hcs
  subst hcs
  match cs, hl with
  | [c0, c1], _ =>
    simp at e0 e1
    subst e0 e1
    exact ⟨⟨f, A, k, cap, l⟩, rfl, hrd, hll, by simp only; omega⟩

set_option maxRecDepth 100000 in
set_option maxHeartbeats 400000 in
theorem fsckRepairs_lifted (os : Os) (started : os.Started) (H : Type) (enc : TypeId × Value → H) :
    ReturnsInHanded {} Try.checked os 6 .any (Rows.fsckRepairsSpec.pre6 enc Try.prog Try.f6 Rows.fsckRepairsRow.domain false)
      (Rows.fsckRepairsSpec.post enc Try.prog Try.f6 false true false false) := by
  refine returnsInHanded_of_change (C := Try.checked) own started (by kernel_rfl) Try.func6
    (ChangeSpec.witness6 (enc := enc) (C := Try.checked) false ⟨#[], #[.int .i64 0, .slice none 0 0, .slice none 0 0], []⟩ 8 (by kernel_rfl) (by kernel_rfl) (by kernel_rfl) (by kernel_rfl)) ?_
  intro W base args ds gs before hval0 hW hcnd _
  have hval : ∀ (j : Nat) t v, Try.f6.params[j]? = some t → args[j]? = some v → Value.okWide Try.prog W .any base t v := hval0
  have hW0 := hW
  obtain ⟨p, q, hA0, hV, _, _, _⟩ := hW
  have hA : DataW.TrodAll enc Try.prog W 0 (fun _ => true) true Try.f6.params.toList args.toList ds p := hA0
  rw [Try.params6] at hA hval
  obtain ⟨v0, vs0, d0, ds0, p0, q0, hargs, rfl, rfl, h0, r0⟩ := trodAll_cons hA
  obtain ⟨v1, vs1, d1, ds1, p1, q1, rfl, rfl, rfl, h1, r1⟩ := trodAll_cons r0
  obtain ⟨v2, vs2, d2, ds2, p2, q2, rfl, rfl, rfl, h2, r2⟩ := trodAll_cons r1
  obtain ⟨rfl, rfl, rfl⟩ := trodAll_nil r2
  obtain rfl : args = #[v0, v1, v2] := by cases args; simp_all
  obtain ⟨z, rfl, rfl, rfl, _⟩ := open_int Try.underlying3 (hval 0 _ v0 rfl rfl) h0
  obtain ⟨fu1, hf1⟩ := h1
  obtain ⟨A, n, cap, l, hcs, hl, hnc, hcm, _, hrd, hQ, _⟩ := open_list Cm.cells (fun x => x.ok W) Try.underlying43 claim_cells Cm.len (by omega) claim_parse hf1
  obtain rfl := slice_of hcs (okWide_slice Try.underlying43 (hval 1 _ v1 rfl rfl))
  obtain ⟨fu2, hf2⟩ := h2
  obtain ⟨A', n', cap', ms, hcs', hl', hnc', hcm', _, hrd', _, _⟩ := open_list icell (fun _ => True) Try.underlying37 int_cells icell_len (by omega) int_parse hf2
  obtain rfl := slice_of hcs' (okWide_slice Try.underlying37 (hval 2 _ v2 rfl rfl))
  unfold maxLen at hcm hcm'
  refine (fsckRepairs_walk z A A' n cap n' cap' l ms W ⟨hrd, hl, hQ⟩ hrd' hl' (by omega)).mono fun e W' ⟨he, hg⟩ => ⟨_, he, ?_⟩
  exact law_post laidOut Try.underlying4 rfl rfl (by kernel_rfl) (fun xs hx => by
    match xs, hx with
    | [_, _, _], _ => rfl) hW0 hg
theorem fsckRepairs_over : Rows.fsckRepairsRow.holds Try.pinned (OpenSpec.ofChange Rows.fsckRepairsSpec) :=
  OpenClaim.holds_of_wide 6 Try.f6 rfl rfl rfl rfl rfl rfl rfl ⟨rfl, rfl, rfl, rfl, rfl⟩ rfl rfl rfl rfl rfl (by kernel_rfl) Try.func6 (by kernel_rfl)
    (of_decide_eq_true (by kernel_rfl)) (by unfold Func.isWrapper; first | (rw [if_pos (by decide +kernel)]; kernel_rfl) | (rw [if_neg (by decide +kernel)]; exact ⟨rfl, rfl⟩))
    (fun os started H enc _ => fsckRepairs_lifted os started H enc)
theorem fsckRepairs_holds : Rows.FsckRepairsSaid := fsckRepairs_over
end Fs
theorem fsckRepairs_holds : Rows.FsckRepairsSaid := Fs.fsckRepairs_holds
end Go.Proofs.Ytfljbiobiobamab
