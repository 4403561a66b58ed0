/-
  EccTells: ecc.Check and ecc.Mend answer as the reference does, for every word and check bits. Conditions: none.
-/
import Derived.Test.YtljdfkejhgaciabEccW3
import Derived.Test.YtljdfkejhgaciabParse
namespace Go.Proofs.Ytljdfkejhgaciab
open Go.ChangeShapes Go.WideShapes Go.ChangeAt Go.RowKit
namespace Ecc

set_option maxHeartbeats 1600000 in
theorem eccTells_walk (d c : Nat) (hd : d < 18446744073709551616) (hc : c < 256) (w : World) : Calls Try.prog 8 #[.int .u64 (d : Int), .int .u8 (c : Int)] w (Ret w (.bool true)) := by
  have c1 := Lib.hid (fun W => mend_any d c hd hc W)
  have c2 := Lib.hid (fun W => amend_any d c hd hc W)
  have c3 := Lib.hid (fun W => check_any d hd W)
  have c4 := Lib.hid (fun W => acheck_any d hd W)
  generalize mendA d c = mr at c1 c2
  generalize checkN d = cr at c3 c4
  obtain ⟨m1, m2, m3, m4⟩ := mr
  simp only [mval] at c1 c2
  go_enter Try.func8, Try.ntmps8
  go_wp2_with fail
  refine (c1.out _).mono ?_; rintro e w1 ⟨rfl, hb1⟩
  go_wp2_with fail
  refine (c2.out _).mono ?_; rintro e w2 ⟨rfl, hb2⟩
  have hb12 := hb1.trans (hb2.mono hb1.size)
  go_wp2_with fail
  refine (c3.out _).mono ?_; rintro e w3 ⟨rfl, hb3⟩
  have hb13 := hb12.trans (hb3.mono hb12.size)
  go_wp2_with fail
  refine (c4.out _).mono ?_; rintro e w4 ⟨rfl, hb4⟩
  have hb14 := hb13.trans (hb4.mono hb13.size)
  go_wp2
  go_ret
  exact Ret.mk (bool_eq (by simp)) hb14

set_option maxRecDepth 100000 in
theorem eccTells_lifted (os : Os) (started : os.Started) (H : Type) (enc : TypeId × Value → H) :
    ReturnsInHanded {} Try.checked os 8 .any (Rows.eccTellsSpec.pre6 enc Try.prog Try.f8 Rows.eccTellsRow.domain false)
      (Rows.eccTellsSpec.post enc Try.prog Try.f8 false true false false) := by
  refine returnsInHanded_of_change (C := Try.checked) own started (by kernel_rfl) Try.func8
    (ChangeSpec.witness6 (enc := enc) (C := Try.checked) false ⟨#[], #[.int .u64 0, .int .u8 0], []⟩ 8 (by kernel_rfl) (by kernel_rfl) (by kernel_rfl) (by kernel_rfl)) ?_
  intro W base args ds gs before hval0 hW hcnd _
  have hval : ∀ (j : Nat) t v, Try.f8.params[j]? = some t → args[j]? = some v → Value.okWide Try.prog W .any base t v := hval0
  have hW0 := hW
  obtain ⟨p, q, hA0, hV, _, _, _⟩ := hW
  have hA : DataW.TrodAll enc Try.prog W 0 (fun _ => true) true Try.f8.params.toList args.toList ds p := hA0
  rw [Try.params8] at hA hval
  obtain ⟨v0, vs0, d0, ds0, p0, q0, hargs, rfl, rfl, h0, r0⟩ := trodAll_cons hA
  obtain ⟨v1, vs1, d1, ds1, p1, q1, rfl, rfl, rfl, h1, r1⟩ := trodAll_cons r0
  obtain ⟨rfl, rfl, rfl⟩ := trodAll_nil r1
  obtain rfl : args = #[v0, v1] := by cases args; simp_all
  obtain ⟨d, rfl, rfl, rfl, wd⟩ := open_int Try.underlying44 (hval 0 _ v0 rfl rfl) h0
  obtain ⟨c, rfl, rfl, rfl, wc⟩ := open_int Try.underlying5 (hval 1 _ v1 rfl rfl) h1
  obtain ⟨hd0, hd1⟩ := u64_bounds wd
  obtain ⟨hc0, hc1⟩ := u8_bounds wc
  obtain ⟨dn, rfl⟩ := Int.eq_ofNat_of_zero_le hd0
  obtain ⟨cn, rfl⟩ := Int.eq_ofNat_of_zero_le hc0
  refine (eccTells_walk dn cn (by omega) (by omega) W).mono fun e W' ⟨he, hg⟩ => ⟨_, he, ?_⟩
  exact law_post laidOut Try.underlying4 rfl rfl (by kernel_rfl) (fun xs hx => by
    match xs, hx with
    | [_, _], _ => rfl) hW0 hg

theorem eccTells_over : Rows.eccTellsRow.holds Try.pinned (OpenSpec.ofChange Rows.eccTellsSpec) :=
  OpenClaim.holds_of_wide 8 Try.f8 rfl rfl rfl rfl rfl rfl rfl ⟨rfl, rfl, rfl, rfl, rfl⟩ rfl rfl rfl rfl rfl (by kernel_rfl) Try.func8 (by kernel_rfl)
    (of_decide_eq_true (by kernel_rfl)) (by unfold Func.isWrapper; first | (rw [if_pos (by decide +kernel)]; kernel_rfl) | (rw [if_neg (by decide +kernel)]; exact ⟨rfl, rfl⟩))
    (fun os started H enc _ => eccTells_lifted os started H enc)
end Ecc
theorem eccTells_holds : Rows.EccTellsSaid := Ecc.eccTells_over
end Go.Proofs.Ytljdfkejhgaciab
