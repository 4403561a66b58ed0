/-
  Walks of bench.isWord and bench.digits. Conditions: none beyond each theorem's own premises.
-/
import Derived.Test.YtgfldhdmdeeknaaGreatDoorBnB
import Derived.Test.YtgfldhdmdeeknaaGreatDoorShelfN
import Derived.BigRegion
namespace Go.Proofs.YtgfldhdmdeeknaaGreatDoor
open Go.RowKit Go.Shelf
set_option linter.unusedVariables false
namespace Bn

theorem set_info : (Tryz.prog.info? 114).map (fun i => (i.zero, i.size)) = some (some (.agg (Array.replicate 256 (.bool false))), 256) := by kernel_rfl
set_option maxRecDepth 100000 in
theorem trim_any (x : By) (hl : x.length ≤ 9223372036854775807) (w : World) : Calls Tryz.prog 48 #[.string (bs x), .string (bs alnum)] w (Ret w (.string (bs (Lib.trimS x alnum)))) := by
  have h := Any.strings_Trim_laid Tryz.trimN set_info (bs x) (bs alnum) w (by rw [bs_size]; exact hl) (by rw [bs_size]; decide) (ascii_of_all (by rw [bs_data]; decide))
  rw [bs_data, bs_data] at h
  exact h
theorem alnum_bs : (⟨#[97, 98, 99, 100, 101, 102, 103, 104, 105, 106, 107, 108, 109, 110, 111, 112, 113, 114, 115, 116, 117, 118, 119, 120, 121, 122, 48, 49, 50, 51, 52, 53, 54, 55, 56, 57]⟩ : ByteArray) = bs alnum := rfl

set_option maxRecDepth 100000 in
theorem isWord_any (x : By) (S : ByteArray) (hS : bs x = S) (hl : x.length ≤ 9223372036854775806) (w : World) : Calls Tryz.prog 32 #[.string S] w (Ret w (.bool (wd x))) := by
  obtain ⟨N, hN⟩ : ∃ N, x.length = N := ⟨_, rfl⟩
  have hsz : (S.size : Int) = (N : Int) := by rw [← hS, bs_size, hN]
  have cT := Lib.hid (trim_any x (by omega) w)
  rw [← alnum_bs, hS] at cT
  obtain ⟨av, hav⟩ : ∃ av, x.all wch = av := ⟨_, rfl⟩
  have hz : (bs (Lib.trimS x alnum)).toList.isEmpty = av := by
    rw [bs_toList, ← hav]
    have h := trim_all x
    cases ht : Lib.trimS x alnum with
    | nil => rw [h.1 ht]; rfl
    | cons a t =>
      cases ha : x.all wch with
      | false => rfl
      | true => rw [h.2 ha] at ht; cases ht
  have HE : Hid (wd x = ((decide (1 ≤ N) && decide (N ≤ 12)) && av)) := Lib.hid (by unfold wd; rw [hN, hav])
  clear hS hav
  generalize bs (Lib.trimS x alnum) = T at cT hz
  by_cases h0 : 1 ≤ N
  · have k0 : (1 : Int) ≤ (N : Int) := by omega
    by_cases h12 : N ≤ 12
    · have k1 : (N : Int) ≤ 12 := by omega
      have HF : Hid (wd x = av) := Lib.hid (by rw [HE.out, decide_eq_true h0, decide_eq_true h12]; rfl)
      clear hl h0 h12 HE
      go_enter Tryz.func32, Tryz.ntmps32
      go_wp2_with fail
      refine cT.out.mono ?_; rintro en w1 ⟨rfl, hb1⟩
      have HB := Lib.hid hb1
      clear hb1 cT
      cases av with
      | true =>
        go_wp2
        go_ret
        exact Ret.mk (by rw [HF.out]; rfl) HB.out
      | false =>
        go_wp2
        go_ret
        exact Ret.mk (by rw [HF.out]; rfl) HB.out
    · have k1 : ¬ (N : Int) ≤ 12 := by omega
      have HF : Hid (wd x = false) := Lib.hid (by rw [HE.out, decide_eq_false h12, Bool.and_false]; rfl)
      clear hl h0 h12 HE hz cT
      go_enter Tryz.func32, Tryz.ntmps32
      go_wp2
      go_ret
      exact Ret.mk (by rw [HF.out]; rfl) (Below.refl _ _)
  · have k0 : ¬ (1 : Int) ≤ (N : Int) := by omega
    have HF : Hid (wd x = false) := Lib.hid (by rw [HE.out, decide_eq_false h0]; rfl)
    clear hl h0 HE hz cT
    go_enter Tryz.func32, Tryz.ntmps32
    go_wp2
    go_ret
    exact Ret.mk (by rw [HF.out]; rfl) (Below.refl _ _)

theorem bytesOf_map (x : By) : Lib.bytesOf (x.map fun b => (b.toNat : Int)) = x := by
  unfold Lib.bytesOf
  rw [List.map_map]
  exact (List.map_congr_left fun b _ => by simp).trans (List.map_id _)
theorem getD_map (x : By) (i : Nat) (b : UInt8) (h : x[i]? = some b) : (x.map fun b => (b.toNat : Int)).getD i 0 = (b.toNat : Int) := by
  simp [List.getD, h]
set_option maxRecDepth 100000 in
theorem digits_any (x : By) (S : ByteArray) (hS : bs x = S) (hl : x.length ≤ 67108865) (w : World) : Calls Tryz.prog 19 #[.string S] w (Ret w (.string (bs (hx x)))) := by
  by_cases he : x = []
  · have z1 : S.toList.isEmpty = true := by rw [← hS, bs_toList, he]; rfl
    have HX : Hid (bs (hx x) = ⟨#[45]⟩) := Lib.hid (by unfold hx; rw [if_pos he]; rfl)
    clear he hS
    go_enter Tryz.func19, Tryz.ntmps19
    go_wp2
    go_ret
    exact Ret.mk (by rw [HX.out]; rfl) (Below.refl _ _)
  · have z1 : S.toList.isEmpty = false := by
      rw [← hS, bs_toList]
      cases x with
      | nil => exact absurd rfl he
      | cons _ _ => rfl
    have HX : Hid (bs (hx x) = bs (Lib.Hx.encode x)) := Lib.hid (by unfold hx; rw [if_neg he])
    obtain ⟨cb, w1, hcv, hb1, hlt1, hcell⟩ := bytes_of x S hS w
    have cE := Lib.hid (Any.hex_EncodeToString Tryz.hexEnc w.heap.size 0 x.length cb (x.map fun b => (b.toNat : Int)) w1 (by simp) (fun i hi => by
      obtain ⟨b, hb⟩ : ∃ b, x[i]? = some b := ⟨_, List.getElem?_eq_getElem hi⟩
      rw [getD_map x i b hb]
      have := b.toNat_lt
      omega) (fun i hi => by
      obtain ⟨b, hb⟩ : ∃ b, x[i]? = some b := ⟨_, List.getElem?_eq_getElem hi⟩
      rw [getD_map x i b hb, Nat.zero_add]
      exact hcell i b hb) hlt1 (by omega))
    rw [bytesOf_map] at cE
    have HB := Lib.hid hb1
    clear he hS hcell hb1
    go_enter Tryz.func19, Tryz.ntmps19
    go_wp2_with fail
    refine cE.out.mono ?_; rintro en w2 ⟨rfl, hb2⟩
    have HF := Lib.hid (HB.out.trans (hb2.mono HB.out.size))
    clear hb2 cE
    go_wp2
    go_ret
    exact Ret.mk (by rw [HX.out]; rfl) HF.out
end Bn
end Go.Proofs.YtgfldhdmdeeknaaGreatDoor
