/-
  Walk of ftl's write. Conditions: none beyond the theorem's own premises.
-/
import Derived.Test.YtfljbiobiobamaaFtW4
namespace Go.Proofs.Ytfljbiobiobamaa
open Go.RowKit
set_option linter.unusedVariables false
namespace Ft
open Nd (B Rt RtB)

structure Good (fl : List B) (hd : Nat) (ow : S → Option Int) (at_ : Int → Option S) (has : Int → Option Int) (W : Nat) : Prop where
  inv : Inv fl ow at_ has W
  h8 : hd < 8
  blank : ∃ y : B, fl[(hd + 1) % 8]? = some y ∧ y.done = 0
/-- the device is as it must be -/
def Is (w0 : World) (gd go ga : Nat) (has : Int → Option Int) (W : Nat) (R : List It) (w : World) : Prop :=
  ∃ fl hd ow at_, St w0 w gd go ga fl hd ow at_ R ∧ Good fl hd ow at_ has W
theorem Good.put {fl : List B} {hd p : Nat} {ow : S → Option Int} {at_ : Int → Option S} {has : Int → Option Int} {W n : Nat} {x : B} {d : Int} (G : Good fl hd ow at_ has W) (hx : fl[hd]? = some x) (hp : p < 4) (hd' : x.done = (p : Int)) (hn : n < 16) :
    Good (fl.set hd (x.put d p)) hd (mup ow ⟨hd, p⟩ (n : Int)) (mup at_ (n : Int) ⟨hd, p⟩) (mup has (n : Int) d) W := by
  have := G.h8
  refine ⟨G.inv.prog hx hp hd' (by omega) (by omega), G.h8, ?_⟩
  obtain ⟨y, hy, h0⟩ := G.blank
  exact ⟨y, by rw [List.getElem?_set, if_neg (by omega)]; exact hy, h0⟩

def AtG (w0 : World) (gd go ga : Nat) (has : Int → Option Int) (W5 : Nat) (R : List It) (g : Nat) (wr : World) : Prop :=
  ∃ fl hd ow at_ W1, St w0 wr gd go ga fl hd ow at_ R ∧ Good fl hd ow at_ has W1 ∧ more hd fl at_ g ∧ W1 + g ≤ W5

set_option maxRecDepth 100000 in
set_option maxHeartbeats 6400000 in
theorem write_any (gd go ga W n : Nat) (d : Int) (has : Int → Option Int) (R : List It) (w0 w : World) (hs : Is w0 gd go ga has W R w) (hn : n < 16) (hW : W + 5 < 1048576) :
    Calls Try.prog 47 #[.pointer (some ⟨gd, 0, none⟩), .int .i64 (n : Int), .int .i64 d] w (fun en w' => en = .returned (.tuple #[]) ∧ Is w0 gd go ga (mup has (n : Int) d) (W + 5) R w') := by
  obtain ⟨g0, HAT⟩ : ∃ g0, Hid (AtG w0 gd go ga has (W + 5) R g0 w) := by
    obtain ⟨fl, hd, ow, at_, h1, h2⟩ := hs
    obtain ⟨g, hg, hm⟩ := more0 h2.inv h2.h8
    exact ⟨g, Lib.hid ⟨fl, hd, ow, at_, W, h1, h2, hm, by omega⟩⟩
  have HN := Lib.hid hn
  have HW := Lib.hid hW
  clear hs hn hW
  go_enter Try.func47, Try.ntmps47
  go_wp2
  go_loopg [] g0 (fun g wr => AtG w0 gd go ga has (W + 5) R g wr)
  case atStart => exact HAT.out
  case round =>
    clear HAT
    obtain ⟨fl, hd, ow, at_, W1, hst, hG, hM, hle⟩ := hrel
    obtain ⟨x, hx, hM'⟩ := id hM
    have HM := Lib.hid hM
    have HLE := Lib.hid hle
    have HST := Lib.hid hst
    have HG := Lib.hid hG
    have HX := Lib.hid hx
    have m8 : (hd : Int) < 8 := by have := hG.h8; omega
    have m0 : (0 : Int) ≤ (hd : Int) := by omega
    clear hM hle hst
    obtain ⟨gf, c, no, na, hc, H⟩ := HST.out
    have HS := Lib.hid H
    have HC := Lib.hid hc
    clear H hc
    have d0 : ∀ z : LaterOf wr, z.w.cell? ⟨gd, 0, none⟩ = some (.slice (some ⟨gf, 0, none⟩) 8 c) := fun z => z.cell (HS.out.cell 0 rfl (k := 0) rfl)
    have d1 : ∀ z : LaterOf wr, z.w.cell? ⟨gd, 1, none⟩ = some (.int .i64 (hd : Int)) := fun z => z.cell (HS.out.cell 0 rfl (k := 1) rfl)
    by_cases h4 : x.done = 4
    · have d2 : ∀ z : LaterOf wr, z.w.cell? ⟨gf, hd * 6 + 4, none⟩ = some (.int .i64 4) := fun z => z.cell (by rw [← h4]; exact fl_done HS.out HX.out)
      have H4 := Lib.hid h4
      obtain ⟨y, hy, hy0⟩ := hG.blank
      have HY := Lib.hid hy
      have HY0 := Lib.hid hy0
      have HBIG : Hid (W1 < 1048576) := Lib.hid (by have := HLE.out; have := HW.out; omega)
      have HNX : Hid (((hd + 1) % 8 + 1) % 8 < 8) := Lib.hid (by omega)
      clear hG hx hM' h4 hy hy0
      go_upto_region 0 with (fail)
      refine wp_region_later (by kernel_rfl) (by kernel_rfl) ?_
      repeat (go_big_quiet_step (fail))
      refine wpQuiet_nil ?_; intro xw hw'; obtain ⟨xq, hw''⟩ := hw'; obtain ⟨xw0, xh⟩ := xq; change xw = xw0 at hw''; subst hw''
      have HST2 := Lib.hid (HST.out.later xh)
      clear d0 d1 d2 HS xh HST
      obtain ⟨z, hz⟩ : ∃ z, fl[((hd + 1) % 8 + 1) % 8]? = some z := ⟨_, List.getElem?_eq_getElem (by rw [HG.out.inv.rt.1]; exact HNX.out)⟩
      have HZ := Lib.hid hz
      clear hz
      go_wp2_with fail
      refine (advance_any gd go ga hd ((hd + 1) % 8) (((hd + 1) % 8 + 1) % 8) W1 fl y z ow at_ has R w0 _ HST2.out HG.out.inv HG.out.h8 rfl rfl HBIG.out HY.out HY0.out HZ.out).mono ?_
      rintro en w5 ⟨rfl, fl', ow', at', hst5, hwent⟩
      obtain ⟨g', hg', hm'⟩ := more_next HG.out.h8 HX.out H4.out HM.out hwent
      have HR : Hid (AtG w0 gd go ga has (W + 5) R g' w5) := Lib.hid ⟨fl', _, ow', at', W1 + 1, hst5, ⟨hwent.inv, by omega, hwent.blank⟩, hm', by have := HLE.out; omega⟩
      have HGG := Lib.hid hg'
      clear hst5 hwent hm' hg' HLE HM HG HST2
      go_wp2
      go_roundg g'
      case measure => exact HGG.out
      case rel => exact HR.out
    · obtain ⟨p, hp, hp4⟩ : ∃ p : Nat, x.done = (p : Int) ∧ p < 4 := by
        have h1 := hG.inv.rt.2 x (List.mem_of_getElem? hx)
        have h2 := h1.d0
        have h3 := h1.d4
        exact ⟨x.done.toNat, by omega, by omega⟩
      have d2 : ∀ z : LaterOf wr, z.w.cell? ⟨gf, hd * 6 + 4, none⟩ = some (.int .i64 (p : Int)) := fun z => z.cell (by rw [← hp]; exact fl_done HS.out HX.out)
      have hz : ((p : Int) == 4) = false := by simp; omega
      have HP := Lib.hid hp
      have HP4 := Lib.hid hp4
      have HWW : Hid (W1 ≤ W + 5) := Lib.hid (by have := HLE.out; omega)
      clear hG hx hM' h4 hp hp4
      go_upto_region 0 with (fail)
      refine wp_region_later (by kernel_rfl) (by kernel_rfl) ?_
      repeat (go_big_quiet_step (fail))
      refine wpQuiet_nil ?_; intro xw hw'; obtain ⟨xq, hw''⟩ := hw'; obtain ⟨xw0, xh⟩ := xq; change xw = xw0 at hw''; subst hw''
      have HST2 := Lib.hid (HST.out.later xh)
      clear d0 d1 d2 HS xh HST hz
      go_wp2_with fail
      refine (program_any gd go ga hd n p W1 d x fl ow at_ has R w0 _ HST2.out HG.out.inv HG.out.h8 HX.out HP4.out HP.out HN.out).mono ?_
      rintro en w5 ⟨rfl, hst5⟩
      have HR : Hid (Is w0 gd go ga (mup has (n : Int) d) (W + 5) R w5) := Lib.hid ⟨_, _, _, _, hst5, (by
        have := HG.out.put HX.out HP4.out HP.out HN.out (d := d)
        exact ⟨this.inv.mono HWW.out, this.h8, this.blank⟩)⟩
      clear hst5 HST2 HG HM
      go_wp2
      refine bodyPost_end (v := .tuple #[]) (by simp [results, Try.results47]) rfl ?_
      exact ⟨rfl, HR.out⟩
end Ft
end Go.Proofs.Ytfljbiobiobamaa
