/-
  PressTells: press.Pack and Unpack answer as the reference does, for every list of bytes. Conditions: none.
-/
import Derived.Test.YtakmfjnfkjdbfaaPrW3
import Derived.Test.YtakmfjnfkjdbfaaPrW5
import Derived.Test.YtakmfjnfkjdbfaaParse
import Derived.Test.YtakmfjnfkjdbfaaEq
import Derived.Test.YtakmfjnfkjdbfaaReach
namespace Go.Proofs.Ytakmfjnfkjdbfaa
open Go.ChangeShapes Go.WideShapes Go.ChangeAt Go.RowKit
set_option linter.unusedVariables false
namespace Pr

theorem pack_both (A : Option Addr) (n c : Nat) (l : List Nat) (hl : l.length = n) (hnc : n ≤ c) (hby : ∀ x ∈ l, x < 256) : ∃ (o : List Nat) (e : Int), (∀ x ∈ o, x < 256) ∧
    ∀ w, Rd w w.heap.size 1 A n (l.flatMap bcell) → Calls Try.prog 16 #[.slice A n c] w (BytesRet w o e) ∧ Calls Try.prog 17 #[.slice A n c] w (BytesRet w o e) := by
  by_cases hn : 4096 < n
  · exact ⟨[], 2, by simp, fun w hr => ⟨pack_out A n c w hn, vpack_out A n c w hn⟩⟩
  · obtain ⟨o, ho⟩ := pk_ex n l [] (by omega) (by simp)
    exact ⟨o, 0, pk_bytes ho (by simp) hby (by simp), fun w hr => ⟨pack_any A n c l o w hr hl hnc (by omega) ho, vpack_any A n c l o w hr hl (by omega) ho⟩⟩

set_option maxRecDepth 100000 in
set_option maxHeartbeats 3200000 in
theorem pressTells_walk (A : Option Addr) (n c : Nat) (l : List Nat) (w : World) (hr : Rd w w.heap.size 1 A n (l.flatMap bcell)) (hl : l.length = n) (hnc : n ≤ c) (hcm : c ≤ 9223372036854775807) (hn : n ≤ 140737488355328) (hby : ∀ x ∈ l, x < 256) :
    Calls Try.prog 4 #[.slice A n c] w (Ret w (.bool true)) := by
  obtain ⟨o1, e1, hb1, hP⟩ := pack_both A n c l hl hnc hby
  obtain ⟨o2, e2, hU, hb2, _⟩ := un_ex n l [] (by omega) hby (by simp) (by simp)
  have cP := Lib.hid (fun W (hW : Below w.heap.size w W) => hP W (hr.later hW))
  have cU := Lib.hid (fun W (hW : Below w.heap.size w W) => unpack_any A n c l o2 e2 W (hr.later hW) hl hnc hcm hby hU)
  have cV := Lib.hid (fun W (hW : Below w.heap.size w W) => vunpack_any A n c l o2 e2 W (hr.later hW) hl hn hby hU)
  have HB1 := Lib.hid hb1
  have HB2 := Lib.hid hb2
  clear hP hU hr hl hby hb1 hb2
  have S0 := Lib.hid (Sep.nil_ w)
  go_enter Try.func4, Try.ntmps4
  go_wp2_with fail
  refine (cP.out _ S0.out.below).1.mono ?_; rintro en w1 ⟨A1, c1, hc1, rfl, K⟩
  have S1 := Lib.hid (S0.out.join K)
  clear K S0
  go_wp2_with fail
  refine (cP.out _ S1.out.below).2.mono ?_; rintro en w2 ⟨A2, c2, hc2, rfl, K⟩
  have S2 := Lib.hid (S1.out.join K)
  clear K S1
  go_wp2_with fail
  refine (cU.out _ S2.out.below).mono ?_; rintro en w3 ⟨A3, c3, hc3, rfl, K⟩
  have S3 := Lib.hid (S2.out.join K)
  clear K S2
  go_wp2_with fail
  refine (cV.out _ S3.out.below).mono ?_; rintro en w4 ⟨A4, c4, hc4, rfl, K⟩
  have S4 := Lib.hid (S3.out.join K)
  clear K S3 cP cU cV
  have s1 := run_str_rd (P := Try.prog) (c := c1) 33 9 5 Try.underlying33 Try.underlying5 Try.underlying9 (S4.out.rd 0 rfl) HB1.out
  have s2 := run_str_rd (P := Try.prog) (c := c2) 33 9 5 Try.underlying33 Try.underlying5 Try.underlying9 (S4.out.rd 1 rfl) HB1.out
  have s3 := run_str_rd (P := Try.prog) (c := c3) 33 9 5 Try.underlying33 Try.underlying5 Try.underlying9 (S4.out.rd 2 rfl) HB2.out
  have s4 := run_str_rd (P := Try.prog) (c := c4) 33 9 5 Try.underlying33 Try.underlying5 Try.underlying9 (S4.out.rd 3 rfl) HB2.out
  generalize strOf o1 = z1 at s1 s2
  generalize strOf o2 = z2 at s3 s4
  go_wp2
  go_ret
  exact Ret.mk rfl S4.out.below

theorem byte_parse {H : Type} {enc : TypeId × Value → H} {w : World} {base : Nat} {spare : Nat → Bool} {held : Bool} (n : Nat) (cs : List Value) (y : DataW H × List MemPlace)
    (h : DataW.trod enc Try.prog w base spare held n 5 cs = some y) : ∃ x : Nat, cs = bcell x ∧ x < 256 := by
  obtain ⟨v, hv, _, hw⟩ := DataW.trod_int Try.underlying5 h
  have hb := u8_bounds hw
  obtain ⟨m, rfl⟩ := Int.eq_ofNat_of_zero_le hb.1
  exact ⟨m, by simpa [bcell] using hv, by omega⟩
theorem byte_cells : Try.prog.cellsOf 5 = 1 := by kernel_rfl
theorem byte_bytes : Try.prog.bytesOf 5 = 1 := by kernel_rfl
set_option maxRecDepth 100000 in
set_option maxHeartbeats 400000 in
theorem pressTells_lifted (os : Os) (started : os.Started) (H : Type) (enc : TypeId × Value → H) :
    ReturnsInHanded {} Try.checked os 4 .any (Rows.pressTellsSpec.pre6 enc Try.prog Try.f4 Rows.pressTellsRow.domain false)
      (Rows.pressTellsSpec.post enc Try.prog Try.f4 false true false false) := by
  refine returnsInHanded_of_change_sized (C := Try.checked) own started (by kernel_rfl) Try.func4
    (ChangeSpec.witness6 (enc := enc) (C := Try.checked) false ⟨#[], #[.slice none 0 0], []⟩ 8 (by kernel_rfl) (by kernel_rfl) (by kernel_rfl) (by kernel_rfl)) ?_
  intro W base args ds gs before hval0 hW hcnd hsz0 _
  have hval : ∀ (j : Nat) t v, Try.f4.params[j]? = some t → args[j]? = some v → Value.okWide Try.prog W .any base t v := hval0
  have hsz : (DataW.weightsEach Try.prog (Try.f4.params.toList ++ Rows.pressTellsSpec.plain.varTypes Try.prog) (ds ++ gs)).all (· ≤ reachBytes) = true := hsz0
  have hW0 := hW
  obtain ⟨p, q, hA0, hV, _, _, _⟩ := hW
  have hA : DataW.TrodAll enc Try.prog W 0 (fun _ => true) true Try.f4.params.toList args.toList ds p := hA0
  rw [Try.params4] at hA hval hsz
  obtain ⟨v0, vs0, d0, ds0, p0, q0, hargs, rfl, rfl, h0, r0⟩ := trodAll_cons hA
  obtain ⟨rfl, rfl, rfl⟩ := trodAll_nil r0
  obtain rfl : args = #[v0] := by cases args; simp_all
  obtain ⟨fu0, hf0⟩ := h0
  obtain ⟨A, n, cap, l, hcs, hl, hnc, hcm, _, hrd, hQ, hd⟩ := open_list bcell (fun x => x < 256) Try.underlying33 byte_cells bcell_len (by omega) byte_parse hf0
  obtain rfl := slice_of hcs (okWide_slice Try.underlying33 (hval 0 _ v0 rfl rfl))
  have hn := reach_of hsz (j := 0) rfl rfl Try.underlying33 byte_bytes hd
  refine (pressTells_walk A n cap l W hrd hl hnc (by simp only [maxLen] at hcm; omega) (by omega) hQ).mono fun e W' ⟨he, hg⟩ => ⟨_, he, ?_⟩
  exact law_post laidOut Try.underlying4 rfl rfl (by kernel_rfl) (fun xs hx => by
    match xs, hx with
    | [_], _ => rfl) hW0 hg
theorem pressTells_over : Rows.pressTellsRow.holds Try.pinned (OpenSpec.ofChange Rows.pressTellsSpec) :=
  OpenClaim.holds_of_wide 4 Try.f4 rfl rfl rfl rfl rfl rfl rfl ⟨rfl, rfl, rfl, rfl, rfl⟩ rfl rfl rfl rfl rfl (by kernel_rfl) Try.func4 (by kernel_rfl)
    (of_decide_eq_true (by kernel_rfl)) (by unfold Func.isWrapper; first | (rw [if_pos (by decide +kernel)]; kernel_rfl) | (rw [if_neg (by decide +kernel)]; exact ⟨rfl, rfl⟩))
    (fun os started H enc _ => pressTells_lifted os started H enc)
theorem pressTells_holds : Rows.PressTellsSaid := pressTells_over
end Pr
theorem pressTells_holds : Rows.PressTellsSaid := Pr.pressTells_holds
end Go.Proofs.Ytakmfjnfkjdbfaa
