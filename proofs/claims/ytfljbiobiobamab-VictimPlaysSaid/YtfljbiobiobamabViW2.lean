/-
  Walk of victim.Greedy. Conditions: none beyond each theorem's own premises.
-/
import Derived.Test.YtfljbiobiobamabViW
import Derived.Deep.RegionLaw
import Derived.BigRegion
namespace Go.Proofs.Ytfljbiobiobamab
open Go.RowKit Go.Shelf
set_option linter.unusedVariables false
namespace Vic

/-- the best of the first k -/
def Bst (l : List Fm) (sp : Int) (k : Nat) (bv : Int) : Prop := (bv = -1 ∧ ∀ j, j < k → ¬ Cand l sp j) ∨ ∃ b : Nat, bv = b ∧ b < k ∧ Cand l sp b ∧ ∀ j, j < k → Cand l sp j → leB l b j = true
theorem Bst.skip {l : List Fm} {sp bv : Int} {k : Nat} (h : Bst l sp k bv) (hc : ¬ Cand l sp k) : Bst l sp (k + 1) bv := by
  rcases h with ⟨h1, h2⟩ | ⟨b, h1, h2, h3, h4⟩
  · refine .inl ⟨h1, fun j hj => ?_⟩
    by_cases h : j = k
    · subst h; exact hc
    · exact h2 j (by omega)
  · refine .inr ⟨b, h1, by omega, h3, fun j hj hj2 => ?_⟩
    by_cases h : j = k
    · subst h; exact absurd hj2 hc
    · exact h4 j (by omega) hj2
theorem Bst.first {l : List Fm} {sp : Int} {k : Nat} (h : Bst l sp k (-1)) (hc : Cand l sp k) : Bst l sp (k + 1) k := by
  rcases h with ⟨h1, h2⟩ | ⟨b, h1, h2, h3, h4⟩
  · refine .inr ⟨k, rfl, by omega, hc, fun j hj hj2 => ?_⟩
    by_cases h : j = k
    · subst h; exact (le_ord l).refl _
    · exact absurd hj2 (h2 j (by omega))
  · omega
theorem Bst.better {l : List Fm} {sp : Int} {k b : Nat} (h : Bst l sp k (b : Int)) (hc : Cand l sp k) (hb : leB l k b = true) : Bst l sp (k + 1) k := by
  rcases h with ⟨h1, h2⟩ | ⟨b', h1, h2, h3, h4⟩
  · omega
  · obtain rfl : b = b' := by omega
    refine .inr ⟨k, rfl, by omega, hc, fun j hj hj2 => ?_⟩
    by_cases h : j = k
    · subst h; exact (le_ord l).refl _
    · exact (le_ord l).tr _ _ _ hb (h4 j (by omega) hj2)
theorem Bst.keep {l : List Fm} {sp : Int} {k b : Nat} (h : Bst l sp k (b : Int)) (hb : leB l b k = true) : Bst l sp (k + 1) b := by
  rcases h with ⟨h1, h2⟩ | ⟨b', h1, h2, h3, h4⟩
  · omega
  · obtain rfl : b = b' := by omega
    refine .inr ⟨b, rfl, by omega, h3, fun j hj hj2 => ?_⟩
    by_cases h : j = k
    · subst h; exact hb
    · exact h4 j (by omega) hj2
theorem fAt_eq {l : List Fm} {k : Nat} {x : Fm} (h : l[k]? = some x) : fAt l k = x := by
  unfold fAt
  rw [List.getD_eq_getElem?_getD, h]
  rfl
theorem leB_iff {l : List Fm} {a b : Nat} {x y : Fm} (hx : l[a]? = some x) (hy : l[b]? = some y) : leB l a b = true ↔ (x.nd < y.nd ∨ (x.nd = y.nd ∧ (x.we < y.we ∨ (x.we = y.we ∧ a ≤ b)))) := by
  unfold leB
  rw [fAt_eq hx, fAt_eq hy, decide_eq_true_eq]
theorem Low.pos {l : List Fm} {m : Int} (h : Low l m) (hok : OkL l) : 0 ≤ m := by
  rcases h.2.2 with e | ⟨f, hf, e⟩
  · omega
  · have := (hok.2 f hf).2.1; omega

set_option maxRecDepth 100000 in
set_option maxHeartbeats 3200000 in
theorem vgreedy_any (A : Option Addr) (n c : Nat) (l : List Fm) (sp : Int) (w : World) (hr : Rd w w.heap.size 3 A n (l.flatMap Fm.cells)) (hl : l.length = n) (hn : n ≤ 9223372036854775807) :
    Calls Try.prog 12 #[.slice A n c, .int .i64 sp] w (fun e w' => ∃ k er : Int, e = .returned (.tuple #[.int .i64 k, .int .i64 er]) ∧ Way l sp k er ∧ Below w.heap.size w w') := by
  have cC := Lib.hid (vcheck_any A n c l sp w hr hl hn)
  have HR := Lib.hid hr
  have HL := Lib.hid hl
  clear hr hl
  by_cases h1 : OkL l
  · by_cases h2 : sp < 1 ∨ sp > 1048576
    · rw [show chkE l sp = 2 by unfold chkE; rw [if_pos h1, if_pos h2]] at cC
      have HW := Lib.hid (Way.range h1 h2)
      clear h1 h2
      go_enter Try.func12, Try.ntmps12
      go_wp2_with fail
      refine cC.out.mono ?_; rintro en w1 ⟨rfl, hb1⟩
      have HB1 := Lib.hid hb1
      clear hb1 cC
      go_wp2
      go_ret2
      exact ⟨0, 2, rfl, HW.out, HB1.out⟩
    · rw [show chkE l sp = 0 by unfold chkE; rw [if_pos h1, if_neg h2]] at cC
      have HOK := Lib.hid h1
      have HSP := Lib.hid h2
      clear h1 h2
      go_enter Try.func12, Try.ntmps12
      go_wp2_with fail
      refine cC.out.mono ?_; rintro en w1 ⟨rfl, hb1⟩
      have HB1 := Lib.hid hb1
      have cL := Lib.hid (least_any A n c l w1 (HR.out.later hb1) HL.out hn)
      clear hb1 cC
      go_wp2_with fail
      refine cL.out.mono ?_; rintro en w2 ⟨m, rfl, hlo, hb2⟩
      have HLO := Lib.hid hlo
      have HB2 := Lib.hid (HB1.out.trans (hb2.mono HB1.out.size))
      have hm0 := hlo.pos HOK.out
      have hm1 := hlo.1
      have hs := HSP.out
      have hs0 : 1 ≤ sp := by omega
      have hs1 : sp ≤ 1048576 := by omega
      clear hb2 cL hlo hs HB1
      go_wp2
      go_loopg [7, 21] n (fun q v i wr => ∃ (k : Nat) (bv : Int), k ≤ n ∧ q = n - k ∧ v = .int .i64 bv ∧ i = .int .i64 k ∧ Hid (Bst l sp k bv) ∧ Below w.heap.size w wr)
      case atStart => exact ⟨0, -1, Nat.zero_le _, rfl, rfl, rfl, Lib.hid (.inl ⟨rfl, fun j hj => by omega⟩), HB2.out⟩
      case round =>
        clear HB2
        obtain ⟨k, bv, hk, rfl, rfl, rfl, HG, hb⟩ := hrel
        have HB := Lib.hid hb
        clear hb
        by_cases hlt : k < n
        · obtain ⟨b, off, rfl, hb, hc⟩ := HR.out.at_ Fm.len (by omega)
          obtain ⟨f, hf⟩ : ∃ f, l[k]? = some f := ⟨_, List.getElem?_eq_getElem (by rw [HL.out]; exact hlt)⟩
          obtain ⟨q0, q1, q2⟩ := Fm.facts hb HB.out hc hf
          have i0 : (0 : Int) ≤ (k : Int) := by omega
          have i1 : (k : Int) < (n : Int) := by omega
          have HO := Lib.hid hf
          clear hc hf
          obtain ⟨fn, fd, fw⟩ := f
          simp only at q0 q1 q2
          have HBL := Lib.hid (HB.out.alloc HB.out.size (.cells #[.int .i64 fn, .int .i64 fd, .int .i64 fw] 34))
          have hfo := (HOK.out.2 _ (List.mem_of_getElem? HO.out)).2
          obtain ⟨w0', w1'⟩ := hfo
          simp only at w0' w1'
          have HCA : Hid (Cand l sp k ↔ (fd = 4 ∧ ¬ (fw - m ≥ sp))) := Lib.hid (by
            unfold Cand
            rw [HLO.out.cand HOK.out HSP.out (by rw [HL.out]; exact hlt), fAt_eq HO.out]
            exact ⟨fun h => h.2, fun h => ⟨by rw [HL.out]; exact hlt, h⟩⟩)
          have f0 := (Blk.new wr 34 [.int .i64 fn, .int .i64 fd, .int .i64 fw]).cell (k := 0) rfl
          have f1 := (Blk.new wr 34 [.int .i64 fn, .int .i64 fd, .int .i64 fw]).cell (k := 1) rfl
          have f2 := (Blk.new wr 34 [.int .i64 fn, .int .i64 fd, .int .i64 fw]).cell (k := 2) rfl
          have HRD := Lib.hid (HR.out.later HBL.out)
          go_upto_region 8 with (fail)
          generalize wr.alloc (.cells #[.int .i64 fn, .int .i64 fd, .int .i64 fw] 34) = wo at f0 f1 f2 HBL HRD ⊢
          generalize wr.heap.size = gx at f0 f1 f2 ⊢
          clear q0 q1 q2
          by_cases hd : fd = 4
          · subst hd
            by_cases hge : fw - m ≥ sp
            · have HN := Lib.hid (HG.out.skip (fun h => (HCA.out.1 h).2 hge))
              clear HCA HG HRD
              go_wp2
              go_roundg (n - (k + 1))
              case measure => omega
              case rel => exact ⟨k + 1, bv, by omega, rfl, rfl, by go_num, HN, HBL.out⟩
            · have HCK := Lib.hid (HCA.out.2 ⟨rfl, hge⟩)
              clear HCA
              rcases HG.out with ⟨hbv, _⟩ | ⟨b', hbv, hb'k, _, _⟩
              · subst hbv
                have HN := Lib.hid (HG.out.first HCK.out)
                clear HG HRD
                go_wp2
                go_quiet (fail)
                go_wp2
                generalize hxw : World.drewN wo _ = xw
                have xh : Below wo.heap.size wo xw := by rw [← hxw]; exact below_drewN (Below.refl _ _) _
                clear hxw
                go_roundg (n - (k + 1))
                case measure => omega
                case rel => exact ⟨k + 1, (k : Int), by omega, rfl, rfl, by go_num, HN, HBL.out.trans (xh.mono HBL.out.size)⟩
              · subst hbv
                obtain ⟨y, hy⟩ : ∃ y, l[b']? = some y := ⟨_, List.getElem?_eq_getElem (by rw [HL.out]; omega)⟩
                obtain ⟨b2, off2, e2, hb2, hc2⟩ := HRD.out.at_ Fm.len (by omega)
                cases e2
                obtain ⟨p0, p1, p2⟩ := Fm.facts hb2 (Below.refl _ wo) hc2 hy
                have HY := Lib.hid hy
                have HKE := leB_iff HO.out hy
                have HKF := leB_iff hy HO.out
                obtain ⟨yn, yd, yw⟩ := y
                simp only at p0 p1 p2 HKE HKF
                have j0 : (0 : Int) ≤ (b' : Int) := by omega
                have j1 : (b' : Int) < (n : Int) := by omega
                have j2 : decide ((b' : Int) < 0) = false := decide_eq_false (by omega)
                clear hc2 hy HRD p1
                by_cases g1 : fn < yn
                · have HN := Lib.hid (HG.out.better HCK.out (HKE.2 (.inl g1)))
                  clear HKE HKF HG
                  go_wp2
                  go_quiet (fail)
                  go_wp2
                  generalize hxw : World.drewN wo _ = xw
                  have xh : Below wo.heap.size wo xw := by rw [← hxw]; exact below_drewN (Below.refl _ _) _
                  clear hxw
                  go_roundg (n - (k + 1))
                  case measure => omega
                  case rel => exact ⟨k + 1, (k : Int), by omega, rfl, rfl, by go_num, HN, HBL.out.trans (xh.mono HBL.out.size)⟩
                · have gd1 : decide (fn < yn) = false := decide_eq_false g1
                  by_cases g2 : fn = yn
                  · subst g2
                    by_cases g3 : fw < yw
                    · have HN := Lib.hid (HG.out.better HCK.out (HKE.2 (.inr ⟨rfl, .inl g3⟩)))
                      clear HKE HKF HG
                      go_wp2
                      go_quiet (fail)
                      go_wp2
                      generalize hxw : World.drewN wo _ = xw
                      have xh : Below wo.heap.size wo xw := by rw [← hxw]; exact below_drewN (Below.refl _ _) _
                      clear hxw
                      go_roundg (n - (k + 1))
                      case measure => omega
                      case rel => exact ⟨k + 1, (k : Int), by omega, rfl, rfl, by go_num, HN, HBL.out.trans (xh.mono HBL.out.size)⟩
                    · have gd3 : decide (fw < yw) = false := decide_eq_false g3
                      have HN := Lib.hid (HG.out.keep (HKF.2 (.inr ⟨rfl, by omega⟩)))
                      clear HKE HKF HG
                      go_wp2
                      go_quiet (fail)
                      go_wp2
                      generalize hxw : World.drewN wo _ = xw
                      have xh : Below wo.heap.size wo xw := by rw [← hxw]; exact below_drewN (Below.refl _ _) _
                      clear hxw
                      go_roundg (n - (k + 1))
                      case measure => omega
                      case rel => exact ⟨k + 1, (b' : Int), by omega, rfl, rfl, by go_num, HN, HBL.out.trans (xh.mono HBL.out.size)⟩
                  · have HN := Lib.hid (HG.out.keep (HKF.2 (.inl (by omega))))
                    have hz : (fn == yn) = false := by simpa using g2
                    clear HKE HKF HG
                    go_wp2
                    go_quiet (fail)
                    go_wp2
                    generalize hxw : World.drewN wo _ = xw
                    have xh : Below wo.heap.size wo xw := by rw [← hxw]; exact below_drewN (Below.refl _ _) _
                    clear hxw
                    go_roundg (n - (k + 1))
                    case measure => omega
                    case rel => exact ⟨k + 1, (b' : Int), by omega, rfl, rfl, by go_num, HN, HBL.out.trans (xh.mono HBL.out.size)⟩
          · have HN := Lib.hid (HG.out.skip (fun h => hd (HCA.out.1 h).1))
            have hz : (fd == 4) = false := by simpa using hd
            clear HCA HG HRD
            go_wp2
            go_roundg (n - (k + 1))
            case measure => omega
            case rel => exact ⟨k + 1, bv, by omega, rfl, rfl, by go_num, HN, HBL.out⟩
        · obtain rfl : k = n := by omega
          rcases HG.out with ⟨hbv, hno⟩ | ⟨b', hbv, hb'k, hcb, hle⟩
          · subst hbv
            have HW := Lib.hid (Way.none HOK.out HSP.out (fun j hj => hno j (by rw [← HL.out]; exact hj.1) hj))
            clear hno HG
            go_wp2
            go_ret2
            exact ⟨0, 3, rfl, HW.out, HB.out⟩
          · subst hbv
            have HW := Lib.hid (Way.some b' HOK.out HSP.out hcb (fun j hj => hle j (by rw [← HL.out]; exact hj.1) hj))
            have j2 : ¬ (b' : Int) < 0 := by omega
            clear hcb hle HG
            go_wp2
            go_ret2
            exact ⟨(b' : Int), 0, rfl, HW.out, HB.out⟩
  · rw [show chkE l sp = 1 by unfold chkE; rw [if_neg h1]] at cC
    have HW := Lib.hid (Way.form (sp := sp) h1)
    clear h1
    go_enter Try.func12, Try.ntmps12
    go_wp2_with fail
    refine cC.out.mono ?_; rintro en w1 ⟨rfl, hb1⟩
    have HB1 := Lib.hid hb1
    clear hb1 cC
    go_wp2
    go_ret2
    exact ⟨0, 1, rfl, HW.out, HB1.out⟩
end Vic
end Go.Proofs.Ytfljbiobiobamab
