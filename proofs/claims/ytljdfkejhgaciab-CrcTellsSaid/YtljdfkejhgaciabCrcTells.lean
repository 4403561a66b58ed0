/-
  CrcTells: crc.Sum, Seal and Open answer as the reference does, for every word and every bytes. Conditions: none.
-/
import Derived.Test.YtljdfkejhgaciabCrcW3
import Derived.Test.YtljdfkejhgaciabParse
namespace Go.Proofs.Ytljdfkejhgaciab
open Go.ChangeShapes Go.WideShapes Go.ChangeAt Go.RowKit
namespace Crc

theorem openE_small {l : List Nat} (hb : ∀ x ∈ l, x < 256) : ∀ x ∈ (openE l).1, x < 256 := by
  unfold openE
  split
  · simp
  · split
    · exact fun x hx => hb x (List.mem_of_mem_take hx)
    · simp
theorem sealE_small {l : List Nat} (hb : ∀ x ∈ l, x < 256) : ∀ x ∈ (sealE l).1, x < 256 := by
  unfold sealE
  split
  · simp
  · intro x hx
    have := sumB_lt l 65535 (by omega)
    rcases List.mem_append.1 hx with h | h
    · exact hb x h
    · simp [tail2] at h
      omega

set_option maxHeartbeats 1600000 in
theorem crcTells_walk (s : Nat) (A : Option Addr) (n c : Nat) (l : List Nat) (w : World) (hs : s < 65536) (hr : Rd w w.heap.size 1 A n (l.flatMap bcell)) (hl : l.length = n) (hn : n ≤ 9223372036854775807) (hc : n ≤ c) (hb : ∀ x ∈ l, x < 256) :
    Calls Try.prog 3 #[.int .u16 (s : Int), .slice A n c] w (Ret w (.bool true)) := by
  have kR : ∀ w', Below w.heap.size w w' → Rd w' w'.heap.size 1 A n (l.flatMap bcell) := fun w' hb' => (hr.below hb').more hb'.size
  have c1 := Lib.hid (seal_any A n c l w hr hl hn hb)
  have c2 := Lib.hid (fun w' hb' => bseal_any A n c l w' (kR w' hb') hl hn hb)
  have c3 := Lib.hid (fun w' hb' => open_any A n c l w' (kR w' hb') hl hn hc hb)
  have c4 := Lib.hid (fun w' hb' => bopen_any A n c l w' (kR w' hb') hl hn hc hb)
  have c5 := Lib.hid (fun w' hb' => sum_is s A n c l w' hs (kR w' hb') hl hn hb)
  have c6 := Lib.hid (fun w' hb' => bsum_any s A n c l w' hs (kR w' hb') hl hn hb)
  have HOS := Lib.hid (openE_small hb)
  have HSS := Lib.hid (sealE_small hb)
  clear hr kR hl hb
  generalize openE l = oe at c3 c4 HOS
  generalize sealE l = se at c1 c2 HSS
  generalize sumB s l = sm at c5 c6
  obtain ⟨ol, oz⟩ := oe
  obtain ⟨sl, sz⟩ := se
  go_enter Try.func3, Try.ntmps3
  go_wp2_with fail
  refine c1.out.mono ?_; rintro e w1 ⟨v1, rfl, ho1, hb1⟩
  have HO1 := Lib.hid ho1
  clear ho1
  go_wp2_with fail
  refine (c2.out _ hb1).mono ?_; rintro e w2 ⟨v2, rfl, ho2, hb2⟩
  have HO2 := Lib.hid ho2
  have hb12 := hb1.trans (hb2.mono hb1.size)
  clear ho2
  go_wp2_with fail
  refine (c3.out _ hb12).mono ?_; rintro e w3 ⟨v3, rfl, ho3, hb3⟩
  have HO3 := Lib.hid ho3
  have hb13 := hb12.trans (hb3.mono hb12.size)
  clear ho3
  go_wp2_with fail
  refine (c4.out _ hb13).mono ?_; rintro e w4 ⟨A4, c4', rfl, ho4, hb4⟩
  have HO4 := Lib.hid ho4
  have hb14 := hb13.trans (hb4.mono hb13.size)
  clear ho4
  go_wp2_with fail
  refine (c5.out _ hb14).mono ?_; rintro e w5 ⟨rfl, hb5⟩
  have hb15 := hb14.trans (hb5.mono hb14.size)
  go_wp2_with fail
  refine (c6.out _ hb15).mono ?_; rintro e w6 ⟨rfl, hb6⟩
  have hb16 := hb15.trans (hb6.mono hb15.size)
  have b46 := hb5.trans (hb6.mono hb5.size)
  have b36 := hb4.trans (b46.mono hb4.size)
  have b26 := hb3.trans (b36.mono hb3.size)
  have b16 := hb2.trans (b26.mono hb2.size)
  have k1 := run_str_own (P := Try.prog) 23 9 5 Try.underlying23 Try.underlying5 Try.underlying9 (own_below HO1.out b16) HSS.out
  have k2 := run_str_own (P := Try.prog) 23 9 5 Try.underlying23 Try.underlying5 Try.underlying9 (own_below HO2.out b26) HSS.out
  have k3 := run_str_own (P := Try.prog) 23 9 5 Try.underlying23 Try.underlying5 Try.underlying9 (own_below HO3.out b36) HOS.out
  have k4 := run_str_rd (P := Try.prog) (c := c4') 23 9 5 Try.underlying23 Try.underlying5 Try.underlying9 ((HO4.out.below b46).more b46.size) HOS.out
  generalize strOf sl = sx at k1 k2
  generalize strOf ol = sy at k3 k4
  clear hb1 hb2 hb3 hb4 hb5 hb6 hb12 hb13 hb14 hb15 b46 b36 b26 b16
  go_wp2
  go_ret
  exact Ret.mk (bool_eq (by simp)) hb16

theorem byte_cells : Try.prog.cellsOf 5 = 1 := by kernel_rfl
theorem byte_parse {H : Type} {enc : TypeId × Value → H} {w : World} {base : Nat} {spare : Nat → Bool} {held : Bool} (n : Nat) (cs : List Value) (y : DataW H × List MemPlace)
    (h : DataW.trod enc Try.prog w base spare held n 5 cs = some y) : ∃ x : Nat, cs = bcell x ∧ x < 256 := by
  obtain ⟨z, rfl, _, wz⟩ := DataW.trod_int Try.underlying5 h
  obtain ⟨h0, h1⟩ := u8_bounds wz
  exact ⟨z.toNat, by simp [bcell]; omega, by omega⟩

set_option maxRecDepth 100000 in
theorem crcTells_lifted (os : Os) (started : os.Started) (H : Type) (enc : TypeId × Value → H) :
    ReturnsInHanded {} Try.checked os 3 .any (Rows.crcTellsSpec.pre6 enc Try.prog Try.f3 Rows.crcTellsRow.domain false)
      (Rows.crcTellsSpec.post enc Try.prog Try.f3 false true false false) := by
  refine returnsInHanded_of_change (C := Try.checked) own started (by kernel_rfl) Try.func3
    (ChangeSpec.witness6 (enc := enc) (C := Try.checked) false ⟨#[], #[.int .u16 0, .slice none 0 0], []⟩ 8 (by kernel_rfl) (by kernel_rfl) (by kernel_rfl) (by kernel_rfl)) ?_
  intro W base args ds gs before hval0 hW hcnd _
  have hval : ∀ (j : Nat) t v, Try.f3.params[j]? = some t → args[j]? = some v → Value.okWide Try.prog W .any base t v := hval0
  have hW0 := hW
  obtain ⟨p, q, hA0, hV, _, _, _⟩ := hW
  have hA : DataW.TrodAll enc Try.prog W 0 (fun _ => true) true Try.f3.params.toList args.toList ds p := hA0
  rw [Try.params3] at hA hval
  obtain ⟨v0, vs0, d0, ds0, p0, q0, hargs, rfl, rfl, h0, r0⟩ := trodAll_cons hA
  obtain ⟨v1, vs1, d1, ds1, p1, q1, rfl, rfl, rfl, h1, r1⟩ := trodAll_cons r0
  obtain ⟨rfl, rfl, rfl⟩ := trodAll_nil r1
  obtain rfl : args = #[v0, v1] := by cases args; simp_all
  obtain ⟨s, rfl, rfl, rfl, ws⟩ := open_int Try.underlying22 (hval 0 _ v0 rfl rfl) h0
  obtain ⟨fu, hf⟩ := h1
  obtain ⟨A, n, cap, l, hcs, hl, hnc, hcm, _, hrd, hQ, _⟩ := open_list bcell (fun x => x < 256) Try.underlying23 byte_cells bcell_len (by omega) byte_parse hf
  obtain rfl := slice_of hcs (okWide_slice Try.underlying23 (hval 1 _ v1 rfl rfl))
  obtain ⟨hs0, hs1⟩ := u16_bounds ws
  unfold maxLen at hcm
  obtain ⟨sn, rfl⟩ := Int.eq_ofNat_of_zero_le hs0
  refine (crcTells_walk sn A n cap l W (by omega) hrd hl (by omega) hnc hQ).mono fun e W' ⟨he, hg⟩ => ⟨_, he, ?_⟩
  exact law_post laidOut Try.underlying4 rfl rfl (by kernel_rfl) (fun xs hx => by
    match xs, hx with
    | [_, _], _ => rfl) hW0 hg

theorem crcTells_over : Rows.crcTellsRow.holds Try.pinned (OpenSpec.ofChange Rows.crcTellsSpec) :=
  OpenClaim.holds_of_wide 3 Try.f3 rfl rfl rfl rfl rfl rfl rfl ⟨rfl, rfl, rfl, rfl, rfl⟩ rfl rfl rfl rfl rfl (by kernel_rfl) Try.func3 (by kernel_rfl)
    (of_decide_eq_true (by kernel_rfl)) (by unfold Func.isWrapper; first | (rw [if_pos (by decide +kernel)]; kernel_rfl) | (rw [if_neg (by decide +kernel)]; exact ⟨rfl, rfl⟩))
    (fun os started H enc _ => crcTells_lifted os started H enc)
end Crc
theorem crcTells_holds : Rows.CrcTellsSaid := Crc.crcTells_over
end Go.Proofs.Ytljdfkejhgaciab
