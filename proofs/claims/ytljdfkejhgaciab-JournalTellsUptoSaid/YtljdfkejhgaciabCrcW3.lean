/-
  Walks of crc.Open and of the reference's BOpen.
-/
import Derived.Test.YtljdfkejhgaciabCrcW2
namespace Go.Proofs.Ytljdfkejhgaciab
open Go.RowKit
namespace Crc

theorem Rd_take {w : World} {B k n : Nat} {A : Option Addr} {l : List Nat} (h : Rd w B 1 A n (l.flatMap bcell)) (hl : l.length = n) (hk : k ≤ n) : Rd w B 1 A k ((l.take k).flatMap bcell) := by
  refine ⟨by rw [bcell_flat_len, List.length_take]; omega, fun h0 => ?_⟩
  obtain ⟨b, off, e, hb, hc⟩ := h.2 (by omega)
  refine ⟨b, off, e, hb, fun j u hu => hc j u ?_⟩
  rw [bcell_at] at hu ⊢
  rw [List.getElem?_take] at hu
  split at hu
  · exact hu
  · cases hu

def openE (l : List Nat) : List Nat × Int :=
  if l.length < 2 ∨ 4098 < l.length then ([], 2) else
    if sumB 65535 (l.take (l.length - 2)) = l.getD (l.length - 2) 0 * 256 + l.getD (l.length - 2 + 1) 0 then (l.take (l.length - 2), 0) else ([], 7)

theorem or_eq {a b : Nat} (ha : a < 256) (hb : b < 256) : bits .or .u16 ((a : Int) * 256) (b : Int) = ((a * 256 + b : Nat) : Int) := by
  have h := u16_or_nat (a * 256) b (by omega) (by omega)
  rw [show ((a * 256 : Nat) : Int) = (a : Int) * 256 by omega] at h
  have hb' : b < 2 ^ 8 := hb
  have e := Nat.two_pow_add_eq_or_of_lt hb' a
  rw [h, show a * 256 = 2 ^ 8 * a from Nat.mul_comm a 256, ← e]

set_option maxHeartbeats 800000 in
theorem open_any (A : Option Addr) (n c : Nat) (l : List Nat) (w : World) (hr : Rd w w.heap.size 1 A n (l.flatMap bcell)) (hl : l.length = n) (hn : n ≤ 9223372036854775807) (hc : n ≤ c) (hb : ∀ x ∈ l, x < 256) :
    Calls Try.prog 11 #[.slice A n c] w (SealRet w (openE l)) := by
  by_cases hbig : n < 2 ∨ 4098 < n
  · have HE : Hid (openE l = ([], 2)) := Lib.hid (by rw [openE, if_pos (by omega)])
    clear hr
    rcases hbig with h | h
    · go_enter Try.func11, Try.ntmps11
      go_wp2
      go_ret2
      exact ⟨.slice none 0 0, by rw [HE.out]; rfl, by rw [HE.out]; exact own_none, Below.refl _ _⟩
    · have h' : ¬ n < 2 := by omega
      go_enter Try.func11, Try.ntmps11
      go_wp2
      go_ret2
      exact ⟨.slice none 0 0, by rw [HE.out]; rfl, by rw [HE.out]; exact own_none, Below.refl _ _⟩
  · have h1 : 2 ≤ n := by omega
    have h2 : n ≤ 4098 := by omega
    obtain ⟨b, off, rfl, hbb, hcell⟩ := hr.at_ bcell_len (show 0 < n by omega)
    obtain ⟨x, hx⟩ : ∃ x, l[n - 2]? = some x := ⟨_, List.getElem?_eq_getElem (by omega)⟩
    obtain ⟨y, hy⟩ : ∃ y, l[n - 2 + 1]? = some y := ⟨_, List.getElem?_eq_getElem (by omega)⟩
    have d0 : ∀ z : LaterOf w, z.w.cell? ⟨b, off + (n - 2), none⟩ = some (.int .u8 (x : Int)) := fun z => z.cell (by have := hcell (n - 2) 0 x _ hx rfl; simpa using this)
    have d1 : ∀ z : LaterOf w, z.w.cell? ⟨b, off + (n - 2 + 1), none⟩ = some (.int .u8 (y : Int)) := fun z => z.cell (by have := hcell (n - 2 + 1) 0 y _ hy rfl; simpa using this)
    have hx8 := hb x (List.mem_of_getElem? hx)
    have hy8 := hb y (List.mem_of_getElem? hy)
    have ht := Rd_take hr hl (show n - 2 ≤ n by omega)
    have htl : (l.take (n - 2)).length = n - 2 := by rw [List.length_take]; omega
    have htb : ∀ x ∈ l.take (n - 2), x < 256 := fun x hx => hb x (List.mem_of_mem_take hx)
    have cS : ∀ z : LaterOf w, Calls Try.prog 13 #[.int .u16 65535, .slice (some ⟨b, off, none⟩) (n - 2) c] z.w (Ret z.w (.int .u16 (sumB 65535 (l.take (n - 2)) : Int))) :=
      fun z => sum_is 65535 _ (n - 2) c _ z.w (by omega) ((ht.below z.h).more z.h.size) htl (by omega) htb
    have cC : ∀ z : LaterOf w, Calls Try.prog 35 #[.slice (some ⟨b, off, none⟩) (n - 2) c] z.w (OwnRet z.w 5 1 (n - 2) ((l.take (n - 2)).flatMap bcell)) :=
      fun z => clone_any _ (n - 2) c _ z.w ((ht.below z.h).more z.h.size) (by omega)
    have eo := or_eq hx8 hy8
    have hE : openE l = if sumB 65535 (l.take (n - 2)) = x * 256 + y then (l.take (n - 2), 0) else ([], 7) := by
      rw [openE, if_neg (by omega), hl]
      simp only [List.getD_eq_getElem?_getD, hx, hy, Option.getD_some]
    have hsl := sumB_lt (l.take (n - 2)) 65535 (by omega)
    have i1 : (0 : Int) ≤ (n : Int) - 2 := by omega
    have i2 : (n : Int) - 2 ≤ (c : Int) := by omega
    have i3 : (n : Int) - 2 < (n : Int) := by omega
    have i4 : (n : Int) - 2 + 1 < (n : Int) := by omega
    have HS := Lib.hid cS
    have HC := Lib.hid cC
    have HTL := Lib.hid htl
    clear hr cS cC hl hb hcell hx hy ht htl htb
    generalize hsg : sumB 65535 (l.take (n - 2)) = s at HS hE hsl
    generalize hqg : x * 256 + y = q at eo hE
    generalize htg : l.take (n - 2) = tk at hE HC HTL
    clear hsg hqg htg
    by_cases hq : s = q
    · have hq' : ((s : Int) != (q : Int)) = false := by simp [hq]
      rw [if_pos hq] at hE
      have HE := Lib.hid hE
      clear hE hq
      go_enter Try.func11, Try.ntmps11
      go_upto_region 4 with (fail)
      refine wp_region_later (by kernel_rfl) (by kernel_rfl) ?_
      repeat (go_big_quiet_step ((go_at_call 13; exact Calls.later (HS.out _))))
      refine wpQuiet_nil ?_; intro xw hw'; obtain ⟨xq, hw''⟩ := hw'; obtain ⟨xw0, xh⟩ := xq; change xw = xw0 at hw''; subst hw''
      go_wp2_with fail
      refine (HC.out ⟨xw, xh⟩).mono ?_; rintro e w2 ⟨v, rfl, hown, hb2⟩
      go_wp2
      go_ret2
      refine ⟨v, by rw [HE.out]; rfl, ?_, xh.trans (hb2.mono xh.size)⟩
      rw [HE.out]
      simp only [HTL.out]
      exact own_mono hown xh.size
    · have hq' : ((s : Int) != (q : Int)) = true := by simp; omega
      rw [if_neg hq] at hE
      have HE := Lib.hid hE
      clear hE hq
      go_enter Try.func11, Try.ntmps11
      go_upto_region 4 with (fail)
      refine wp_region_later (by kernel_rfl) (by kernel_rfl) ?_
      repeat (go_big_quiet_step ((go_at_call 13; exact Calls.later (HS.out _))))
      refine wpQuiet_nil ?_; intro xw hw'; obtain ⟨xq, hw''⟩ := hw'; obtain ⟨xw0, xh⟩ := xq; change xw = xw0 at hw''; subst hw''
      go_wp2
      go_ret2
      exact ⟨.slice none 0 0, by rw [HE.out]; rfl, by rw [HE.out]; exact own_none, xh⟩

theorem openE_seal {l : List Nat} {n : Nat} (hl : l.length = n) (h1 : 2 ≤ n) (h2 : n ≤ 4098) (hb : ∀ x ∈ l, x < 256) :
    openE l = if l.take (n - 2) ++ tail2 (sumB 65535 (l.take (n - 2))) = l then (l.take (n - 2), 0) else ([], 7) := by
  rw [openE, if_neg (by omega), hl]
  have hsl := sumB_lt (l.take (n - 2)) 65535 (by omega)
  generalize sumB 65535 (l.take (n - 2)) = s at hsl
  have e0 : l.take (n - 2) ++ [l.getD (n - 2) 0, l.getD (n - 2 + 1) 0] = l := by
    conv => rhs; rw [← List.take_append_drop (n - 2) l]
    rw [List.drop_eq_getElem_cons (by omega), List.drop_eq_getElem_cons (by omega), List.drop_eq_nil_of_le (by omega)]
    simp [List.getD_eq_getElem?_getD, List.getElem?_eq_getElem (show n - 2 < l.length by omega), List.getElem?_eq_getElem (show n - 2 + 1 < l.length by omega)]
  have x8 : l.getD (n - 2) 0 < 256 := by
    rw [List.getD_eq_getElem?_getD, List.getElem?_eq_getElem (show n - 2 < l.length by omega)]
    exact hb _ (List.getElem_mem _)
  have y8 : l.getD (n - 2 + 1) 0 < 256 := by
    rw [List.getD_eq_getElem?_getD, List.getElem?_eq_getElem (show n - 2 + 1 < l.length by omega)]
    exact hb _ (List.getElem_mem _)
  generalize l.getD (n - 2) 0 = x at e0 x8
  generalize l.getD (n - 2 + 1) 0 = y at e0 y8
  congr 1
  apply propext
  constructor
  · intro h
    conv => rhs; rw [← e0]
    congr 1
    unfold tail2
    rw [show s / 256 = x by omega, show s % 256 = y by omega]
  · intro h
    have := List.append_cancel_left (e0.trans h.symm)
    simp [tail2] at this
    omega

set_option maxHeartbeats 800000 in
theorem bopen_any (A : Option Addr) (n c : Nat) (l : List Nat) (w : World) (hr : Rd w w.heap.size 1 A n (l.flatMap bcell)) (hl : l.length = n) (hn : n ≤ 9223372036854775807) (hc : n ≤ c) (hb : ∀ x ∈ l, x < 256) :
    Calls Try.prog 12 #[.slice A n c] w (BytesRet w (openE l)) := by
  by_cases hbig : n < 2 ∨ 4098 < n
  · have HE : Hid (openE l = ([], 2)) := Lib.hid (by rw [openE, if_pos (by omega)])
    clear hr
    rcases hbig with h | h
    · go_enter Try.func12, Try.ntmps12
      go_wp2
      go_ret2
      exact ⟨none, 0, by rw [HE.out]; rfl, by rw [HE.out]; exact Rd.nil_, Below.refl _ _⟩
    · have h' : ¬ n < 2 := by omega
      go_enter Try.func12, Try.ntmps12
      go_wp2
      go_ret2
      exact ⟨none, 0, by rw [HE.out]; rfl, by rw [HE.out]; exact Rd.nil_, Below.refl _ _⟩
  · have h1 : 2 ≤ n := by omega
    have h2 : n ≤ 4098 := by omega
    have hA : ∃ ad, A = some ad := by
      obtain ⟨b, off, e, _⟩ := hr.2 (by omega)
      exact ⟨_, e⟩
    obtain ⟨ad, rfl⟩ := hA
    have ht := Rd_take hr hl (show n - 2 ≤ n by omega)
    have htl : (l.take (n - 2)).length = n - 2 := by rw [List.length_take]; omega
    have htb : ∀ x ∈ l.take (n - 2), x < 256 := fun x hx => hb x (List.mem_of_mem_take hx)
    have cB := bseal_any _ (n - 2) c _ w ht htl (by omega) htb
    rw [sealE_yes (by omega)] at cB
    have hE := openE_seal hl h1 h2 hb
    have hsl := sumB_lt (l.take (n - 2)) 65535 (by omega)
    generalize sumB 65535 (l.take (n - 2)) = s at cB hE hsl
    have hwb : ∀ x ∈ l.take (n - 2) ++ tail2 s, x < 256 := by
      intro x hx
      rcases List.mem_append.1 hx with h | h
      · exact htb x h
      · simp [tail2] at h
        omega
    have hbeq := strOf_beq hwb hb
    have i1 : (0 : Int) ≤ (n : Int) - 2 := by omega
    have i2 : (n : Int) - 2 ≤ (c : Int) := by omega
    have HB := Lib.hid cB
    have HR := Lib.hid hr
    have HT := Lib.hid ht
    have HTL := Lib.hid htl
    have HWB := Lib.hid hwb
    have HBB := Lib.hid hb
    clear hr ht htl htb cB hwb hb hl
    by_cases hq : l.take (n - 2) ++ tail2 s = l
    · rw [if_pos hq] at hE
      have hbeq' : ((strOf (l.take (n - 2) ++ tail2 s)).toList == (strOf l).toList) = true := by rw [hbeq]; simp [hq]
      have HE := Lib.hid hE
      clear hE hq hbeq
      go_enter Try.func12, Try.ntmps12
      go_wp2_with fail
      refine HB.out.mono ?_; rintro e w1 ⟨v, rfl, hown, hb1⟩
      have k1 := run_str_own (P := Try.prog) 23 9 5 Try.underlying23 Try.underlying5 Try.underlying9 hown HWB.out
      have k2 := run_str_rd (P := Try.prog) (c := c) 23 9 5 Try.underlying23 Try.underlying5 Try.underlying9 ((HR.out.below hb1).more hb1.size) HBB.out
      have HO := Lib.hid hown
      clear hown
      generalize strOf (l.take (n - 2) ++ tail2 s) = sx at k1 hbeq'
      generalize strOf l = sy at k2 hbeq'
      go_wp2
      go_ret2
      refine ⟨some ad, c, by rw [HE.out]; simp only [HTL.out]; rfl, ?_, hb1⟩
      rw [HE.out]
      simp only [HTL.out]
      exact (HT.out.below hb1).more hb1.size
    · rw [if_neg hq] at hE
      have hbeq' : ((strOf (l.take (n - 2) ++ tail2 s)).toList == (strOf l).toList) = false := by rw [hbeq]; simp [hq]
      have HE := Lib.hid hE
      clear hE hq hbeq
      go_enter Try.func12, Try.ntmps12
      go_wp2_with fail
      refine HB.out.mono ?_; rintro e w1 ⟨v, rfl, hown, hb1⟩
      have k1 := run_str_own (P := Try.prog) 23 9 5 Try.underlying23 Try.underlying5 Try.underlying9 hown HWB.out
      have k2 := run_str_rd (P := Try.prog) (c := c) 23 9 5 Try.underlying23 Try.underlying5 Try.underlying9 ((HR.out.below hb1).more hb1.size) HBB.out
      have HO := Lib.hid hown
      clear hown
      generalize strOf (l.take (n - 2) ++ tail2 s) = sx at k1 hbeq'
      generalize strOf l = sy at k2 hbeq'
      go_wp2
      go_ret2
      exact ⟨none, 0, by rw [HE.out]; rfl, by rw [HE.out]; exact Rd.nil_, hb1⟩
end Crc
end Go.Proofs.Ytljdfkejhgaciab
