/-
  Walk of the reference's JRead.
-/
import Derived.Test.YtljdfkejhgaciabJrnR
namespace Go.Proofs.Ytljdfkejhgaciab
open Go.RowKit
namespace Jrn
open Crc

/-- the step, by the reference's test -/
theorem jstep {l : List Nat} {a q : Nat} (ha : a < l.length) (hq : l.getD a 0 = q) (he : a + q + 3 ≤ l.length) :
    stepJ l a = if seg l a (q + 3) = (writeE (seg l (a + 1) q)).1 then some (seg l (a + 1) q) else none := by
  unfold stepJ
  rw [hq]
  by_cases hc : seg l a (q + 3) = (writeE (seg l (a + 1) q)).1
  · rw [if_pos ⟨ha, he, hc⟩, if_pos hc]
  · rw [if_neg (fun h => hc h.2.2), if_neg hc]

set_option maxHeartbeats 1600000 in
theorem jread_any (A : Option Addr) (n c : Nat) (l : List Nat) (w : World) (hr : Rd w w.heap.size 1 A n (l.flatMap bcell)) (hl : l.length = n) (hn : n ≤ 1048576) (hnc : n ≤ c) (hcm : c ≤ 9223372036854775807) (hb : ∀ x ∈ l, x < 256) :
    Calls Try.prog 29 #[.slice A n c] w (ReadRet w (readE l)) := by
  obtain ⟨j0, hj, hjz, hj1, hj2⟩ := info_parts rows_info
  obtain ⟨i0, hi, hz0, hz1, hz2⟩ := info_parts byte_info
  have HR := Lib.hid hr
  have HL := Lib.hid hl
  have HB := Lib.hid hb
  clear hr hl hb
  go_enter Try.func29, Try.ntmps29
  go_wp2
  go_loopg [4, 5] (n + 1) (fun g v i wr => ∃ (a m : Nat) (out : List (List Nat)) (vals : List Value), a ≤ n ∧ g = n + 1 - a ∧ i = .int .i64 a ∧ m ≤ a ∧ Hid (out.length = m) ∧ wr.ownsRow w.heap.size 23 1 v m vals ∧ Hid (Held wr w.heap.size vals out) ∧
    Hid (ReadTo l a out) ∧ Below w.heap.size w wr)
  case atStart => exact ⟨0, 0, [], [], Nat.zero_le _, rfl, rfl, by omega, Lib.hid rfl, own_none, Lib.hid Held.nil_, Lib.hid (readTo_start l), Below.refl _ _⟩
  case round =>
    obtain ⟨a, m, out, vals, ha, rfl, rfl, hm, HM, hown, HH, HT, hB⟩ := hrel
    have HO := Lib.hid hown
    clear hown
    by_cases hlt : a < n
    · obtain ⟨b, off, rfl, hbb, hcell⟩ := HR.out.at_ bcell_len (show 0 < n by omega)
      obtain ⟨q, hq⟩ : ∃ q, l[a]? = some q := ⟨_, List.getElem?_eq_getElem (by rw [HL.out]; exact hlt)⟩
      have c0 : wr.cell? ⟨b, off + a, none⟩ = some (.int .u8 (q : Int)) := (hB.cell hbb).trans (by have := hcell a 0 q _ hq rfl; simpa using this)
      have hq8 : q < 256 := HB.out q (List.mem_of_getElem? hq)
      have hqd : l.getD a 0 = q := by rw [List.getD_eq_getElem?_getD, hq]; rfl
      clear hcell hq
      by_cases hend : a + q + 3 ≤ n
      · have hst := jstep (by rw [HL.out]; exact hlt) hqd (by rw [HL.out]; exact hend)
        have hsg := Rd_seg HR.out HL.out (show a + (q + 3) ≤ n by omega)
        have hsr := Rd_seg HR.out HL.out (show a + 1 + q ≤ n by omega)
        have hrl := seg_len (l := l) (a := a + 1) (k := q) (by rw [HL.out]; omega)
        have hrs := seg_small (a := a + 1) (k := q) HB.out
        have hss := seg_small (a := a) (k := q + 3) HB.out
        have cW := jwrite_any (some ⟨b, off + (a + 1), none⟩) q (c - (a + 1)) (seg l (a + 1) q) wr ((hsr.below hB).more hB.size) hrl (by omega) hrs
        have hwl := write_len (l := seg l (a + 1) q) (by omega)
        have hwn : (writeE (seg l (a + 1) q)).1.length = q + 3 := by rw [writeE_yes (by omega)]; simp [tail2, hrl]
        have hws := write_small hrs
        have hbeq := strOf_beq hss hws
        generalize writeE (seg l (a + 1) q) = we at cW hwl hwn hws hbeq hst
        obtain ⟨wl, we⟩ := we
        simp only at hwl hwn hws hbeq hst
        obtain ⟨_, rfl⟩ := hwl
        generalize seg l (a + 1) q = r at hst hsr hrl hrs cW
        generalize seg l a (q + 3) = sg at hst hsg hss hbeq
        have n1 : ¬ c = a := by omega
        have n2 : ¬ c = a + 1 := by omega
        have HCW := Lib.hid cW
        have HSG := Lib.hid hsg
        have HSR := Lib.hid hsr
        have HRL := Lib.hid hrl
        have HWN := Lib.hid hwn
        have HWS := Lib.hid hws
        have HSS := Lib.hid hss
        have HRS := Lib.hid hrs
        have HBE := Lib.hid hbeq
        have HST := Lib.hid hst
        clear hqd hsg hsr hrl hrs hss cW hwn hws hbeq hst
        go_wp2_with fail
        rw [show a + 1 + q - (a + 1) = q by omega]
        (with_reducible refine HCW.out.mono ?_)
        rintro e w1 ⟨v1, rfl, hown1, hb1⟩
        obtain ⟨A1, c1, hv1⟩ := own_slice hown1
        simp only [HWN.out] at hown1 hv1
        rw [hv1] at hown1 ⊢
        have hB1 := hB.trans (hb1.mono hB.size)
        have k1 : ∀ y : LaterOf w1, (convert 23 9 (.slice (some ⟨b, off + a, none⟩) (q + 3) (c - a))).run Try.prog y.w = .ok (.string (strOf sg)) y.w := fun y =>
          run_str_rd (P := Try.prog) 23 9 5 Try.underlying23 Try.underlying5 Try.underlying9 (((HSG.out.below hB1).more hB1.size).below y.h) HSS.out
        have k2 : ∀ y : LaterOf w1, (convert 23 9 (.slice A1 (q + 3) c1)).run Try.prog y.w = .ok (.string (strOf wl)) y.w := fun y =>
          run_str_own (P := Try.prog) 23 9 5 Try.underlying23 Try.underlying5 Try.underlying9 (own_below hown1 y.h) HWS.out
        clear hown1 hv1 HCW
        have i1 : (0 : Int) ≤ (a : Int) := by omega
        have i2 : (a : Int) ≤ (a : Int) + ((q : Int) + 3) := by omega
        have i3 : (a : Int) + ((q : Int) + 3) ≤ (c : Int) := by omega
        have e4 : a + (q + 3) - a = q + 3 := by omega
        by_cases hc : sg = wl
        · have hbt : ((strOf sg).toList == (strOf wl).toList) = true := by rw [HBE.out]; simp [hc]
          have HN := Lib.hid (readTo_step HT.out (by rw [HST.out, if_pos hc]) (by rw [HL.out]; exact hlt))
          clear hc
          generalize strOf sg = sx at k1 hbt
          generalize strOf wl = sy at k2 hbt
          go_upto_region 6 with (fail)
          refine wp_region_later (by kernel_rfl) (by kernel_rfl) ?_
          repeat (go_big_quiet_step (fail))
          refine wpQuiet_nil ?_; intro xw hw'; obtain ⟨xq, hw''⟩ := hw'; obtain ⟨xw0, xh⟩ := xq; change xw = xw0 at hw''; subst hw''
          have hBx := hB1.trans (xh.mono hB1.size)
          have hzx := hBx.size
          have HOx := Lib.hid (own_below (own_below HO.out hb1) xh)
          have HHx := Lib.hid ((HH.out.below hb1).below xh)
          have HRx := Lib.hid (((HSR.out.below hBx).below' ((Below.refl _ xw).alloc (Nat.le_refl _) (.cells #[] 5)) hBx.size))
          have hone := bcell_one r
          have HON := Lib.hid hone
          have hnew0 := own_new xw 5 #[] 1 0 rfl (by simp [maxLen]) (Nat.le_refl _)
          have HNW := Lib.hid hnew0
          clear k1 k2 hone hnew0
          go_wp2_with (first
            | (at_builtin; refine wpList_append_rd _ rfl (.tmp 55) (.tmp 56) 23 rfl xw.heap.size 5 i0 (.int .u8 0) 1 1 Try.underlying23 hi hz0 hz1 hz2 rfl (by omega) _ 0 _ rfl HNW.out w.heap.size _ q _ (r.flatMap bcell) rfl HRx.out HON.out (by simp only [maxLen]; omega) (by omega) (by simp) ?_; intro v2 w2 hown2 hg2 hat2; obtain ⟨A2, c2, hv2⟩ := own_slice hown2; rw [hv2, Nat.zero_add] at hown2; rw [hv2, Nat.zero_add]; have hB2 := below_grown ((Below.refl _ xw).alloc (Nat.le_refl _) _) HNW.out hg2 (by simp); have hB2w := hBx.trans (hB2.mono hzx); have hz2 := hB2w.size; have how := own_below (own_below HOx.out hB2) ((Below.refl _ w2).alloc (Nat.le_refl _) (.cells #[.slice A2 q c2] 23)); have hnew := Rd.of_own (own_new w2 23 #[.slice A2 q c2] 1 1 rfl (by simp [maxLen]) (Nat.le_refl _)); have hh2 := ((HHx.out.below hB2).snoc (r := r) (by rw [HRL.out]; exact own_mono hown2 hzx)).below ((Below.refl _ w2).alloc (Nat.le_refl _) (.cells #[.slice A2 q c2] 23)); have HH2 := Lib.hid hh2; have HOW := Lib.hid how; have HNE := Lib.hid hnew; clear hown2 hv2 hg2 hat2 hh2 how hnew)
            | (at_builtin; refine wpList_append_rd _ rfl (.tmp 54) (.tmp 58) 38 rfl w.heap.size 23 j0 (.slice none 0 0) 1 24 Try.underlying38 hj hjz hj1 hj2 rfl (by omega) _ m vals rfl HOW.out _ _ 1 1 _ rfl HNE.out (by simp [Value.oneCell']) (by simp only [maxLen]; omega) (by omega) (by simp; omega) ?_; intro v3 w3 hown3 hg3 hat3))
          have hB3 := below_grown (hB2w.alloc hB2w.size _) HOW.out hg3 (by simp; omega)
          have hh3 := HH2.out.grown HOW.out hg3
          go_roundg (n + 1 - (a + q + 3))
          case measure => omega
          case rel => exact ⟨a + q + 3, m + 1, out ++ [r], vals ++ [.slice A2 q c2], by omega, rfl, by go_num, by omega, Lib.hid (by rw [List.length_append, HM.out]; rfl), hown3, Lib.hid hh3, Lib.hid (by have := HN.out; rwa [HRL.out] at this), hB3⟩
        · have hbt : ((strOf sg).toList == (strOf wl).toList) = false := by rw [HBE.out]; simp [hc]
          have HN := Lib.hid (readTo_end HT.out (by rw [HST.out, if_neg hc]))
          clear hc
          generalize strOf sg = sx at k1 hbt
          generalize strOf wl = sy at k2 hbt
          go_upto_region 6 with (fail)
          refine wp_region_later (by kernel_rfl) (by kernel_rfl) ?_
          repeat (go_big_quiet_step (fail))
          refine wpQuiet_nil ?_; intro xw hw'; obtain ⟨xq, hw''⟩ := hw'; obtain ⟨xw0, xh⟩ := xq; change xw = xw0 at hw''; subst hw''
          clear k1 k2
          go_wp2
          go_ret2
          refine ⟨_, vals, by rw [HN.out]; rfl, ?_, ?_, hB1.trans (xh.mono hB1.size)⟩
          · rw [HN.out]; simp only [HM.out]; exact own_below (own_below HO.out hb1) xh
          · rw [HN.out]; exact (HH.out.below hb1).below xh
      · have HN : Hid (readE l = (out, a)) := Lib.hid (readTo_end HT.out (step_out (by rw [hqd, HL.out]; omega)))
        clear hqd
        go_wp2
        go_ret2
        refine ⟨_, vals, by rw [HN.out]; rfl, ?_, ?_, hB⟩
        · rw [HN.out]; simp only [HM.out]; exact HO.out
        · rw [HN.out]; exact HH.out
    · have HN : Hid (readE l = (out, a)) := Lib.hid (readTo_end HT.out (step_out (by rw [HL.out]; omega)))
      go_wp2
      go_ret2
      refine ⟨_, vals, by rw [HN.out]; rfl, ?_, ?_, hB⟩
      · rw [HN.out]; simp only [HM.out]; exact HO.out
      · rw [HN.out]; exact HH.out
end Jrn
end Go.Proofs.Ytljdfkejhgaciab
