/-
  Base texts in one: FtW4, FtW5, FtW6, FtW7. Conditions: none beyond each theorem's own premises.
-/
import Derived.Test.YtjopiepfjbnkbaaGreatDoorFtW3
import Derived.Test.YtjopiepfjbnkbaaGreatDoorFtA
import Derived.Test.YtjopiepfjbnkbaaGreatDoorNdN
/-! Walk of ftl's advance. Conditions: none beyond the theorem's own premises. -/
namespace Go.Proofs.YtjopiepfjbnkbaaGreatDoor
open Go.RowKit
set_option linter.unusedVariables false
namespace Ft
open Nd (B Rt RtB)

/-- behind an advance -/
def AdvRet (w0 : World) (gd go ga h1 nx W : Nat) (has : Int → Option Int) (at_ : Int → Option S) (R0 : List It) (en : Ending) (w' : World) : Prop :=
  en = .returned (.tuple #[]) ∧ ∃ fl' ow' at', St w0 w' gd go ga fl' h1 ow' at' R0 ∧ Went at_ has (W + 1) h1 nx fl' ow' at'

/-- where the loop over the pages stands -/
def AtQ (w0 : World) (gd go ga h1 nx W q : Nat) (has : Int → Option Int) (at_ : Int → Option S) (R : List It) (wr : World) : Prop :=
  ∃ fl1 ow1 at1 j, St w0 wr gd go ga fl1 h1 ow1 at1 R ∧ Adv at_ has W h1 nx q fl1 ow1 at1 j

set_option maxRecDepth 100000 in
set_option maxHeartbeats 12800000 in
theorem advance_any (gd go ga hd h1 nx W : Nat) (fl : List B) (x y : B) (ow : S → Option Int) (at_ : Int → Option S) (has : Int → Option Int) (R : List It) (w0 w : World) (hs : St w0 w gd go ga fl hd ow at_ R) (I : Inv fl ow at_ has W) (hh : hd < 8) (hh1 : h1 = (hd + 1) % 8) (hnx : nx = (h1 + 1) % 8) (hW : W < 1048576) (hx : fl[h1]? = some x) (hx0 : x.done = 0) (hy : fl[nx]? = some y) :
    Calls Tryz.prog 65 #[.pointer (some ⟨gd, 0, none⟩)] w (AdvRet w0 gd go ga h1 nx W has at_ R) := by
  obtain ⟨gf, c, no, na, hc, H0⟩ := hs
  have c1 := H0.cell 0 rfl (k := 1) rfl
  have u1 := H0.froz 0 rfl (k := 1)
  have HS := Lib.hid (H0.set 0 rfl (k := 1) (.int .i64 (h1 : Int)))
  have HC := Lib.hid hc
  have t1 : ((hd : Int) + 1).tmod 8 = (h1 : Int) := by rw [Int.tmod_eq_emod_of_nonneg (by omega)]; omega
  have t2 : ((h1 : Int) + 1).tmod 8 = (nx : Int) := by rw [Int.tmod_eq_emod_of_nonneg (by omega)]; omega
  have HNE : Hid (h1 ≠ nx) := Lib.hid (by omega)
  have n8 : (nx : Int) < 8 := by omega
  have n0 : (0 : Int) ≤ (nx : Int) := by omega
  have HN8 : Hid (nx < 8) := Lib.hid (by omega)
  have m8 : (hd : Int) < 8 := by omega
  have m0 : (0 : Int) ≤ (hd : Int) := by omega
  have k8 : (h1 : Int) < 8 := by omega
  have k0 : (0 : Int) ≤ (h1 : Int) := by omega
  have HI := Lib.hid I
  have HX := Lib.hid hx
  have HX0 := Lib.hid hx0
  have HY := Lib.hid hy
  have HW := Lib.hid hW
  clear H0 hc I hx hx0 hy hW hh1 hnx
  go_enter Tryz.func65, Tryz.ntmps65
  go_upto_region 1 with (fail)
  generalize w.setCell ⟨gd, 1, none⟩ (.int .i64 (h1 : Int)) = w1 at HS ⊢
  have HS1 : Hid (Sep w0 w1 (dI gd (.slice (some ⟨gf, 0, none⟩) 8 c) h1 go ga :: flI (some ⟨gf, 0, none⟩) c fl :: owI go no ow :: atI ga na at_ :: R)) := Lib.hid HS.out
  clear c1 u1 HS t1 m8 m0
  have c1 := HS1.out.cell 0 rfl (k := 1) rfl
  have c0 := HS1.out.cell 0 rfl (k := 0) rfl
  have cy := fl_done HS1.out HY.out
  by_cases hy0 : y.done = 0
  · rw [hy0] at cy
    have HY0 := Lib.hid hy0
    clear hy0
    go_wp2
    refine bodyPost_end (v := .tuple #[]) (by simp [results, Tryz.results65]) rfl ?_
    exact ⟨rfl, fl, ow, at_, ⟨gf, c, no, na, HC.out, HS1.out⟩, Went.early HI.out HX.out HX0.out HY.out HY0.out⟩
  · have HA0 : Hid (AtQ w0 gd go ga h1 nx W 0 has at_ R w1) := Lib.hid ⟨fl, ow, at_, 0, ⟨gf, c, no, na, HC.out, HS1.out⟩, Adv.start HI.out HX.out HX0.out⟩
    have hz0 : (y.done == 0) = false := by simpa using hy0
    go_wp2
    clear HS1 c1 c0 cy
    generalize (y.done == 0) = yb at hz0 ⊢
    subst hz0
    clear hy0
    go_loopg [31] 4 (fun g i wr => ∃ q : Nat, q ≤ 4 ∧ g = 4 - q ∧ i = .int .i64 (q : Int) ∧ AtQ w0 gd go ga h1 nx W q has at_ R wr)
    case atStart => exact ⟨0, by omega, rfl, rfl, HA0.out⟩
    case round =>
      clear HA0 w1
      obtain ⟨q, hq, rfl, rfl, fl2, ow2, at2, j2, hst, hadv⟩ := hrel
      by_cases hlt : q < 4
      · have HADV := Lib.hid hadv
        have hst' := hst.boxed 136 [.int .i64 (nx : Int), .int .i64 (q : Int)]
        have HST : Hid (St w0 (wr.alloc (.cells #[.int .i64 (nx : Int), .int .i64 (q : Int)] 136)) gd go ga fl2 h1 ow2 at2 (.cells wr.heap.size 136 [.int .i64 (nx : Int), .int .i64 (q : Int)] :: R)) := Lib.hid hst'
        clear hst hst' hadv
        have q4 : (q : Int) < 4 := by omega
        have q0 : (0 : Int) ≤ (q : Int) := by omega
        go_upto_region 7 with (fail)
        generalize wr.alloc (.cells #[.int .i64 (nx : Int), .int .i64 (q : Int)] 136) = wb at HST ⊢
        generalize wr.heap.size = gs at HST ⊢
        have HSO : Hid (SOk ⟨nx, q⟩) := Lib.hid ⟨HN8.out, hlt⟩
        obtain ⟨d0, d1⟩ : wb.cell? ⟨gs, 0, none⟩ = some (.int .i64 (nx : Int)) ∧ wb.cell? ⟨gs, 1, none⟩ = some (.int .i64 (q : Int)) := by
          obtain ⟨gf, c, no, na, hc, H⟩ := HST.out
          exact ⟨H.cell 4 rfl (k := 0) rfl, H.cell 4 rfl (k := 1) rfl⟩
        go_wp2_with fail
        refine (live_any gd go ga h1 W fl2 ow2 at2 has _ ⟨nx, q⟩ w0 _ HST.out HADV.out.inv HSO.out).mono ?_
        rintro en w3 ⟨m, b, rfl, hbt, hbf, hst3⟩
        have HST3 := Lib.hid hst3
        clear hst3 HST d0 d1
        cases b with
        | true =>
          obtain ⟨hm, hm0, hm16⟩ := hbt rfl
          clear hbf hbt
          obtain ⟨n, rfl⟩ := Int.eq_ofNat_of_zero_le hm0
          obtain ⟨x1, hx1, hx1d⟩ := HADV.out.ex
          obtain ⟨_, _, _, y1, hy1, _, hyd, hyh⟩ := HADV.out.inv.spot _ _ hm
          simp only at hy1 hyd hyh
          have hmv := HADV.out.move HNE.out hlt hm hx1 hx1d hy1
          have HMV := Lib.hid hmv
          have HY1 := Lib.hid hy1
          have HYD := Lib.hid hyd
          have HX1 := Lib.hid hx1
          have HX1D := Lib.hid hx1d
          have HN := Lib.hid hm16
          have hj := HADV.out.jq
          have HJ : Hid (j2 < 4) := Lib.hid (by omega)
          clear hmv hm hm0 hm16 hx1 hx1d hy1 hyd hyh hj
          obtain ⟨d0, d1⟩ : w3.cell? ⟨gs, 0, none⟩ = some (.int .i64 (nx : Int)) ∧ w3.cell? ⟨gs, 1, none⟩ = some (.int .i64 (q : Int)) := by
            obtain ⟨gf, c, no, na, hc, H⟩ := HST3.out
            exact ⟨H.cell 4 rfl (k := 0) rfl, H.cell 4 rfl (k := 1) rfl⟩
          go_wp2_with fail
          refine (read_any gd go ga h1 W fl2 y1 ow2 at2 has _ ⟨nx, q⟩ w0 _ HST3.out HADV.out.inv HY1.out hlt HYD.out).mono ?_
          rintro en w4 ⟨rfl, hst4⟩
          have HST4 := Lib.hid hst4
          clear hst4 HST3 d0 d1
          go_wp2_with fail
          refine (program_any gd go ga h1 n j2 W (y1.at q) x1 fl2 ow2 at2 has _ w0 _ HST4.out HADV.out.inv (by omega) HX1.out HJ.out HX1D.out (by have := HN.out; omega)).mono ?_
          rintro en w5 ⟨rfl, hst5⟩
          have HFIN : Hid (∀ W', St w0 W' gd go ga (fl2.set h1 (x1.put (y1.at q) j2)) h1 (mdel (mup ow2 ⟨h1, j2⟩ (n : Int)) ⟨nx, q⟩) (mup at2 (n : Int) ⟨h1, j2⟩) R → AtQ w0 gd go ga h1 nx W (q + 1) has at_ R W') := Lib.hid (fun W' h => ⟨_, _, _, _, h, HMV.out⟩)
          obtain ⟨gf, c, no, na, hc, H5⟩ := hst5
          have HB := Lib.hid H5
          have HCC := Lib.hid hc
          clear H5 hc HST4 HMV HY1 HYD HX1 HX1D HN HJ HADV
          generalize fl2.set h1 (x1.put (y1.at q) j2) = fl1 at HB HFIN
          generalize mup ow2 ⟨h1, j2⟩ (n : Int) = ow1 at HB HFIN
          generalize mup at2 (n : Int) ⟨h1, j2⟩ = at1 at HB HFIN
          go_upto_region 10 with (fail)
          refine wp_region_inv0 (fun ac0 L ac w' => ∃ x50 x51 x52 x53 x54, ac = turn ac0 [(50, x50), (51, x51), (52, x52), (53, x53), (54, x54)] ∧ (L 0 = true → x50 = .pointer (some ⟨gd, 0, none⟩)) ∧ (L 1 = true → x51 = .pointer (some ⟨gd, 0, none⟩)) ∧ (L 2 = true → x52 = .pointer (some ⟨gd, 2, none⟩)) ∧ (L 3 = true → x53 = .map (some go)) ∧ (L 4 = true → x54 = .agg #[.int .i64 (nx : Int), .int .i64 (q : Int)]) ∧ (L 1 = true → L 0 = true) ∧ (L 2 = true → L 1 = true) ∧ (L 3 = true → L 2 = true) ∧ (L 5 = true → L 3 = true ∧ L 4 = true) ∧ (if L 5 = true then (Sep w0 w' (dI gd (.slice (some ⟨gf, 0, none⟩) 8 c) h1 go ga :: flI (some ⟨gf, 0, none⟩) c fl1 :: owI go (if (ow1 ⟨nx, q⟩).isSome then no - 1 else no) (mdel ow1 ⟨nx, q⟩) :: atI ga na at1 :: .cells gs 136 [.int .i64 (nx : Int), .int .i64 (q : Int)] :: R)) else Sep w0 w' (dI gd (.slice (some ⟨gf, 0, none⟩) 8 c) h1 go ga :: flI (some ⟨gf, 0, none⟩) c fl1 :: owI go no ow1 :: atI ga na at1 :: .cells gs 136 [.int .i64 (nx : Int), .int .i64 (q : Int)] :: R))) rfl (by kernel_rfl) ?_ ?_ ?_
          · simp only [turn, List.foldl_cons, List.foldl_nil, List.setIfInBounds_toArray, List.set_cons_succ, List.set_cons_zero]
            exact ⟨_, _, _, _, _, rfl, (fun h => absurd h (by decide)), (fun h => absurd h (by decide)), (fun h => absurd h (by decide)), (fun h => absurd h (by decide)), (fun h => absurd h (by decide)), (fun h => absurd h (by decide)), (fun h => absurd h (by decide)), (fun h => absurd h (by decide)), (fun h => absurd h (by decide)), by simpa using HB.out.drew⟩
          · rintro L ac w' i o ⟨x50, x51, x52, x53, x54, ha, p0, p1, p2, p3, p4, q1, q2, q3, q5, hS⟩ ho hi he
            simp only [turn, List.foldl_cons, List.foldl_nil, List.setIfInBounds_toArray, List.set_cons_succ, List.set_cons_zero] at ha ⊢
            subst ha
            rcases i with _|_|_|_|_|_|i
            all_goals cases ho
            all_goals simp [Region.binds] at he
            · have h1 : L 1 = false := by cases hh : L 1 with | false => rfl | true => (have hq := q1 hh; simp [hi] at hq)
              have h2 : L 2 = false := by cases hh : L 2 with | false => rfl | true => (have hq := q2 hh; simp [h1] at hq)
              have h3 : L 3 = false := by cases hh : L 3 with | false => rfl | true => (have hq := q3 hh; simp [h2] at hq)
              have h5 : L 5 = false := by cases hh : L 5 with | false => rfl | true => (have hq := q5 hh; simp [h3] at hq)
              refine wpOp_step rfl (fun K hK => ?_)
              go_simp
              exact hK _ _ ⟨_, _, _, _, _, rfl, (fun _ => rfl), (by simp [h1]), (by simp [h2]), (by simp [h3]), (by first | exact p4 | exact fun _ => rfl), (by simp [h1]), (by simp [h2]), (by simp [h3]), (by simp [h5]), (by simpa [h1, h2, h3, h5] using hS)⟩
            · have h2 : L 2 = false := by cases hh : L 2 with | false => rfl | true => (have hq := q2 hh; simp [hi] at hq)
              have h3 : L 3 = false := by cases hh : L 3 with | false => rfl | true => (have hq := q3 hh; simp [h2] at hq)
              have h5 : L 5 = false := by cases hh : L 5 with | false => rfl | true => (have hq := q5 hh; simp [h3] at hq)
              obtain rfl := p0 (by simp [he])
              refine wpOp_step rfl (fun K hK => ?_)
              go_simp
              exact hK _ _ ⟨_, _, _, _, _, rfl, (by first | exact p0 | exact fun _ => rfl), (fun _ => rfl), (by simp [h2]), (by simp [h3]), (by first | exact p4 | exact fun _ => rfl), (by simp [he]), (by simp [h2]), (by simp [h3]), (by simp [h5]), (by simpa [h2, h3, h5] using hS)⟩
            · have h3 : L 3 = false := by cases hh : L 3 with | false => rfl | true => (have hq := q3 hh; simp [hi] at hq)
              have h5 : L 5 = false := by cases hh : L 5 with | false => rfl | true => (have hq := q5 hh; simp [h3] at hq)
              obtain rfl := p1 (by simp [he])
              refine wpOp_step rfl (fun K hK => ?_)
              go_simp
              exact hK _ _ ⟨_, _, _, _, _, rfl, (by first | exact p0 | exact fun _ => rfl), (by first | exact p1 | exact fun _ => rfl), (fun _ => rfl), (by simp [h3]), (by first | exact p4 | exact fun _ => rfl), (by simpa using q1), (by simp [he]), (by simp [h3]), (by simp [h5]), (by simpa [h3, h5] using hS)⟩
            · have h5 : L 5 = false := by cases hh : L 5 with | false => rfl | true => (have hq := q5 hh; simp [hi] at hq)
              obtain rfl := p2 (by simp [he])
              have f0 : w'.cell? ⟨gd, 2, none⟩ = some (.map (some go)) := by
                rw [if_neg (by simp [h5])] at hS
                exact hS.cell 0 rfl (k := 2) rfl
              refine wpOp_step rfl (fun K hK => ?_)
              go_simp
              exact hK _ _ ⟨_, _, _, _, _, rfl, (by first | exact p0 | exact fun _ => rfl), (by first | exact p1 | exact fun _ => rfl), (by first | exact p2 | exact fun _ => rfl), (fun _ => rfl), (by first | exact p4 | exact fun _ => rfl), (by simpa using q1), (by simpa using q2), (by simp [he]), (by simp [h5]), (by simpa [h5] using hS)⟩
            · have h5 : L 5 = false := by cases hh : L 5 with | false => rfl | true => (have hq := q5 hh; simp [hi] at hq)
              have f0 : w'.cell? ⟨gs, 0, none⟩ = some (.int .i64 (nx : Int)) := by
                rw [if_neg (by simp [h5])] at hS
                exact hS.cell 4 rfl (k := 0) rfl
              have f1 : w'.cell? ⟨gs, 1, none⟩ = some (.int .i64 (q : Int)) := by
                rw [if_neg (by simp [h5])] at hS
                exact hS.cell 4 rfl (k := 1) rfl
              refine wpOp_step rfl (fun K hK => ?_)
              go_simp
              exact hK _ _ ⟨_, _, _, _, _, rfl, (by first | exact p0 | exact fun _ => rfl), (by first | exact p1 | exact fun _ => rfl), (by first | exact p2 | exact fun _ => rfl), (by first | exact p3 | exact fun _ => rfl), (fun _ => rfl), (by simpa using q1), (by simpa using q2), (by simpa using q3), (by simp [h5]), (by simpa [h5] using hS)⟩
            · obtain rfl := p3 (by simp [he])
              obtain rfl := p4 (by simp [he])
              rw [if_neg (by simp [hi])] at hS
              obtain ⟨w5, hrun, _, hN⟩ := hS.drop 2 rfl kspot HSO.out Tryz.underlying88
              simp only [smk] at hrun
              refine wpOp_step rfl (fun K hK => ?_)
              go_simp
              exact hK _ _ ⟨_, _, _, _, _, rfl, (by first | exact p0 | exact fun _ => rfl), (by first | exact p1 | exact fun _ => rfl), (by first | exact p2 | exact fun _ => rfl), (by first | exact p3 | exact fun _ => rfl), (by first | exact p4 | exact fun _ => rfl), (by simpa using q1), (by simpa using q2), (by simpa using q3), (by simp [he]), (by rw [if_pos (by simp)]; exact hN)⟩
          · rintro L ac w' ⟨x50, x51, x52, x53, x54, ha, p0, p1, p2, p3, p4, q1, q2, q3, q5, hS⟩ hall
            have t5 := hall 5 (by decide)
            rw [if_pos t5] at hS
            
            obtain rfl := p0 (hall 0 (by decide))
            obtain rfl := p1 (hall 1 (by decide))
            obtain rfl := p2 (hall 2 (by decide))
            obtain rfl := p3 (hall 3 (by decide))
            obtain rfl := p4 (hall 4 (by decide))
            simp only [turn, List.foldl_cons, List.foldl_nil, List.setIfInBounds_toArray, List.set_cons_succ, List.set_cons_zero] at ha
            subst ha
            clear q1 q2 q3 q5  t5
            have H9 := Lib.hid hS
            clear hS
            go_wp2
            go_roundg (4 - (q + 1))
            case measure => omega
            case rel => exact ⟨q + 1, by omega, rfl, by go_num, HFIN.out _ ⟨_, _, _, _, HCC.out, H9.out.sub (.cons_cons _ (.cons_cons _ (.cons_cons _ (.cons_cons _ (.cons _ (.refl _))))))⟩⟩
        | false =>
          have hno := HADV.out.no (hbf rfl)
          have HFIN : Hid (∀ W', St w0 W' gd go ga fl2 h1 (mdel ow2 ⟨nx, q⟩) at2 R → AtQ w0 gd go ga h1 nx W (q + 1) has at_ R W') := Lib.hid (fun W' h => ⟨_, _, _, _, h, hno⟩)
          clear hno hbt hbf
          obtain ⟨gf, c, no, na, hc, H5⟩ := HST3.out
          have HB := Lib.hid H5
          have HCC := Lib.hid hc
          clear H5 hc HADV HST3
          generalize fl2 = fl1 at HB HFIN
          generalize ow2 = ow1 at HB HFIN
          generalize at2 = at1 at HB HFIN
          go_upto_region 10 with (fail)
          refine wp_region_inv0 (fun ac0 L ac w' => ∃ x50 x51 x52 x53 x54, ac = turn ac0 [(50, x50), (51, x51), (52, x52), (53, x53), (54, x54)] ∧ (L 0 = true → x50 = .pointer (some ⟨gd, 0, none⟩)) ∧ (L 1 = true → x51 = .pointer (some ⟨gd, 0, none⟩)) ∧ (L 2 = true → x52 = .pointer (some ⟨gd, 2, none⟩)) ∧ (L 3 = true → x53 = .map (some go)) ∧ (L 4 = true → x54 = .agg #[.int .i64 (nx : Int), .int .i64 (q : Int)]) ∧ (L 1 = true → L 0 = true) ∧ (L 2 = true → L 1 = true) ∧ (L 3 = true → L 2 = true) ∧ (L 5 = true → L 3 = true ∧ L 4 = true) ∧ (if L 5 = true then (Sep w0 w' (dI gd (.slice (some ⟨gf, 0, none⟩) 8 c) h1 go ga :: flI (some ⟨gf, 0, none⟩) c fl1 :: owI go (if (ow1 ⟨nx, q⟩).isSome then no - 1 else no) (mdel ow1 ⟨nx, q⟩) :: atI ga na at1 :: .cells gs 136 [.int .i64 (nx : Int), .int .i64 (q : Int)] :: R)) else Sep w0 w' (dI gd (.slice (some ⟨gf, 0, none⟩) 8 c) h1 go ga :: flI (some ⟨gf, 0, none⟩) c fl1 :: owI go no ow1 :: atI ga na at1 :: .cells gs 136 [.int .i64 (nx : Int), .int .i64 (q : Int)] :: R))) rfl (by kernel_rfl) ?_ ?_ ?_
          · simp only [turn, List.foldl_cons, List.foldl_nil, List.setIfInBounds_toArray, List.set_cons_succ, List.set_cons_zero]
            exact ⟨_, _, _, _, _, rfl, (fun h => absurd h (by decide)), (fun h => absurd h (by decide)), (fun h => absurd h (by decide)), (fun h => absurd h (by decide)), (fun h => absurd h (by decide)), (fun h => absurd h (by decide)), (fun h => absurd h (by decide)), (fun h => absurd h (by decide)), (fun h => absurd h (by decide)), by simpa using HB.out.drew⟩
          · rintro L ac w' i o ⟨x50, x51, x52, x53, x54, ha, p0, p1, p2, p3, p4, q1, q2, q3, q5, hS⟩ ho hi he
            simp only [turn, List.foldl_cons, List.foldl_nil, List.setIfInBounds_toArray, List.set_cons_succ, List.set_cons_zero] at ha ⊢
            subst ha
            rcases i with _|_|_|_|_|_|i
            all_goals cases ho
            all_goals simp [Region.binds] at he
            · have h1 : L 1 = false := by cases hh : L 1 with | false => rfl | true => (have hq := q1 hh; simp [hi] at hq)
              have h2 : L 2 = false := by cases hh : L 2 with | false => rfl | true => (have hq := q2 hh; simp [h1] at hq)
              have h3 : L 3 = false := by cases hh : L 3 with | false => rfl | true => (have hq := q3 hh; simp [h2] at hq)
              have h5 : L 5 = false := by cases hh : L 5 with | false => rfl | true => (have hq := q5 hh; simp [h3] at hq)
              refine wpOp_step rfl (fun K hK => ?_)
              go_simp
              exact hK _ _ ⟨_, _, _, _, _, rfl, (fun _ => rfl), (by simp [h1]), (by simp [h2]), (by simp [h3]), (by first | exact p4 | exact fun _ => rfl), (by simp [h1]), (by simp [h2]), (by simp [h3]), (by simp [h5]), (by simpa [h1, h2, h3, h5] using hS)⟩
            · have h2 : L 2 = false := by cases hh : L 2 with | false => rfl | true => (have hq := q2 hh; simp [hi] at hq)
              have h3 : L 3 = false := by cases hh : L 3 with | false => rfl | true => (have hq := q3 hh; simp [h2] at hq)
              have h5 : L 5 = false := by cases hh : L 5 with | false => rfl | true => (have hq := q5 hh; simp [h3] at hq)
              obtain rfl := p0 (by simp [he])
              refine wpOp_step rfl (fun K hK => ?_)
              go_simp
              exact hK _ _ ⟨_, _, _, _, _, rfl, (by first | exact p0 | exact fun _ => rfl), (fun _ => rfl), (by simp [h2]), (by simp [h3]), (by first | exact p4 | exact fun _ => rfl), (by simp [he]), (by simp [h2]), (by simp [h3]), (by simp [h5]), (by simpa [h2, h3, h5] using hS)⟩
            · have h3 : L 3 = false := by cases hh : L 3 with | false => rfl | true => (have hq := q3 hh; simp [hi] at hq)
              have h5 : L 5 = false := by cases hh : L 5 with | false => rfl | true => (have hq := q5 hh; simp [h3] at hq)
              obtain rfl := p1 (by simp [he])
              refine wpOp_step rfl (fun K hK => ?_)
              go_simp
              exact hK _ _ ⟨_, _, _, _, _, rfl, (by first | exact p0 | exact fun _ => rfl), (by first | exact p1 | exact fun _ => rfl), (fun _ => rfl), (by simp [h3]), (by first | exact p4 | exact fun _ => rfl), (by simpa using q1), (by simp [he]), (by simp [h3]), (by simp [h5]), (by simpa [h3, h5] using hS)⟩
            · have h5 : L 5 = false := by cases hh : L 5 with | false => rfl | true => (have hq := q5 hh; simp [hi] at hq)
              obtain rfl := p2 (by simp [he])
              have f0 : w'.cell? ⟨gd, 2, none⟩ = some (.map (some go)) := by
                rw [if_neg (by simp [h5])] at hS
                exact hS.cell 0 rfl (k := 2) rfl
              refine wpOp_step rfl (fun K hK => ?_)
              go_simp
              exact hK _ _ ⟨_, _, _, _, _, rfl, (by first | exact p0 | exact fun _ => rfl), (by first | exact p1 | exact fun _ => rfl), (by first | exact p2 | exact fun _ => rfl), (fun _ => rfl), (by first | exact p4 | exact fun _ => rfl), (by simpa using q1), (by simpa using q2), (by simp [he]), (by simp [h5]), (by simpa [h5] using hS)⟩
            · have h5 : L 5 = false := by cases hh : L 5 with | false => rfl | true => (have hq := q5 hh; simp [hi] at hq)
              have f0 : w'.cell? ⟨gs, 0, none⟩ = some (.int .i64 (nx : Int)) := by
                rw [if_neg (by simp [h5])] at hS
                exact hS.cell 4 rfl (k := 0) rfl
              have f1 : w'.cell? ⟨gs, 1, none⟩ = some (.int .i64 (q : Int)) := by
                rw [if_neg (by simp [h5])] at hS
                exact hS.cell 4 rfl (k := 1) rfl
              refine wpOp_step rfl (fun K hK => ?_)
              go_simp
              exact hK _ _ ⟨_, _, _, _, _, rfl, (by first | exact p0 | exact fun _ => rfl), (by first | exact p1 | exact fun _ => rfl), (by first | exact p2 | exact fun _ => rfl), (by first | exact p3 | exact fun _ => rfl), (fun _ => rfl), (by simpa using q1), (by simpa using q2), (by simpa using q3), (by simp [h5]), (by simpa [h5] using hS)⟩
            · obtain rfl := p3 (by simp [he])
              obtain rfl := p4 (by simp [he])
              rw [if_neg (by simp [hi])] at hS
              obtain ⟨w5, hrun, _, hN⟩ := hS.drop 2 rfl kspot HSO.out Tryz.underlying88
              simp only [smk] at hrun
              refine wpOp_step rfl (fun K hK => ?_)
              go_simp
              exact hK _ _ ⟨_, _, _, _, _, rfl, (by first | exact p0 | exact fun _ => rfl), (by first | exact p1 | exact fun _ => rfl), (by first | exact p2 | exact fun _ => rfl), (by first | exact p3 | exact fun _ => rfl), (by first | exact p4 | exact fun _ => rfl), (by simpa using q1), (by simpa using q2), (by simpa using q3), (by simp [he]), (by rw [if_pos (by simp)]; exact hN)⟩
          · rintro L ac w' ⟨x50, x51, x52, x53, x54, ha, p0, p1, p2, p3, p4, q1, q2, q3, q5, hS⟩ hall
            have t5 := hall 5 (by decide)
            rw [if_pos t5] at hS
            
            obtain rfl := p0 (hall 0 (by decide))
            obtain rfl := p1 (hall 1 (by decide))
            obtain rfl := p2 (hall 2 (by decide))
            obtain rfl := p3 (hall 3 (by decide))
            obtain rfl := p4 (hall 4 (by decide))
            simp only [turn, List.foldl_cons, List.foldl_nil, List.setIfInBounds_toArray, List.set_cons_succ, List.set_cons_zero] at ha
            subst ha
            clear q1 q2 q3 q5  t5
            have H9 := Lib.hid hS
            clear hS
            go_wp2
            go_roundg (4 - (q + 1))
            case measure => omega
            case rel => exact ⟨q + 1, by omega, rfl, by go_num, HFIN.out _ ⟨_, _, _, _, HCC.out, H9.out.sub (.cons_cons _ (.cons_cons _ (.cons_cons _ (.cons_cons _ (.cons _ (.refl _))))))⟩⟩
      · obtain rfl : q = 4 := by omega
        have HADV := Lib.hid hadv
        obtain ⟨gf, c, no, na, hc, H5⟩ := hst
        obtain ⟨y1, hy1⟩ : ∃ y1, fl2[nx]? = some y1 := ⟨_, List.getElem?_eq_getElem (by rw [hadv.inv.rt.1]; exact HN8.out)⟩
        have hw1 := hadv.inv.wear y1 (List.mem_of_getElem? hy1)
        have HWAY : Hid (Nd.Way fl2 ⟨2, (nx : Int), 0, 0⟩ (fl2.set nx (.blank (y1.wear + 1))) 0 0) := Lib.hid (.erase hy1 (by have := HW.out; omega))
        have HLO : Hid ((fl2.set nx (.blank (y1.wear + 1))).length = 8) := Lib.hid (by rw [List.length_set]; exact hadv.inv.rt.1)
        have HER := Lib.hid (hadv.erased HNE.out hy1 HW.out)
        have HB := Lib.hid H5
        clear H5 hadv hy1 hw1 hlt hq
        go_wp2_with fail
        refine (do_any gd h1 go ga (some ⟨gf, 0, none⟩) c fl2 (fl2.set nx (.blank (y1.wear + 1))) ⟨2, (nx : Int), 0, 0⟩ 0 _ w0 _ HB.out HADV.out.inv.rt HWAY.out HLO.out).mono ?_
        rintro en w5 ⟨rfl, A2, c2, hc2, K2⟩
        have H9 := Lib.hid K2
        clear K2 HB
        go_wp2
        refine bodyPost_end (v := .tuple #[]) (by simp [results, Tryz.results65]) rfl ?_
        exact ⟨rfl, _, _, _, St.mk H9.out hc2, HER.out⟩
end Ft
end Go.Proofs.YtjopiepfjbnkbaaGreatDoor
/-! Walk of ftl's write. Conditions: none beyond the theorem's own premises. -/
namespace Go.Proofs.YtjopiepfjbnkbaaGreatDoor
open Go.RowKit
set_option linter.unusedVariables false
namespace Ft
open Nd (B Rt RtB)

structure Good (fl : List B) (hd : Nat) (ow : S → Option Int) (at_ : Int → Option S) (has : Int → Option Int) (W : Nat) : Prop where
  inv : Inv fl ow at_ has W
  h8 : hd < 8
  blank : ∃ y : B, fl[(hd + 1) % 8]? = some y ∧ y.done = 0
/-- the device is as it must be -/
def Is (w0 : World) (gd go ga : Nat) (has : Int → Option Int) (W : Nat) (R : List It) (w : World) : Prop :=
  ∃ fl hd ow at_, St w0 w gd go ga fl hd ow at_ R ∧ Good fl hd ow at_ has W
theorem Good.put {fl : List B} {hd p : Nat} {ow : S → Option Int} {at_ : Int → Option S} {has : Int → Option Int} {W n : Nat} {x : B} {d : Int} (G : Good fl hd ow at_ has W) (hx : fl[hd]? = some x) (hp : p < 4) (hd' : x.done = (p : Int)) (hn : n < 16) :
    Good (fl.set hd (x.put d p)) hd (mup ow ⟨hd, p⟩ (n : Int)) (mup at_ (n : Int) ⟨hd, p⟩) (mup has (n : Int) d) W := by
  have := G.h8
  refine ⟨G.inv.prog hx hp hd' (by omega) (by omega), G.h8, ?_⟩
  obtain ⟨y, hy, h0⟩ := G.blank
  exact ⟨y, by rw [List.getElem?_set, if_neg (by omega)]; exact hy, h0⟩

def AtG (w0 : World) (gd go ga : Nat) (has : Int → Option Int) (W5 : Nat) (R : List It) (g : Nat) (wr : World) : Prop :=
  ∃ fl hd ow at_ W1, St w0 wr gd go ga fl hd ow at_ R ∧ Good fl hd ow at_ has W1 ∧ more hd fl at_ g ∧ W1 + g ≤ W5

set_option maxRecDepth 100000 in
set_option maxHeartbeats 6400000 in
theorem write_any (gd go ga W n : Nat) (d : Int) (has : Int → Option Int) (R : List It) (w0 w : World) (hs : Is w0 gd go ga has W R w) (hn : n < 16) (hW : W + 5 < 1048576) :
    Calls Tryz.prog 43 #[.pointer (some ⟨gd, 0, none⟩), .int .i64 (n : Int), .int .i64 d] w (fun en w' => en = .returned (.tuple #[]) ∧ Is w0 gd go ga (mup has (n : Int) d) (W + 5) R w') := by
  obtain ⟨g0, HAT⟩ : ∃ g0, Hid (AtG w0 gd go ga has (W + 5) R g0 w) := by
    obtain ⟨fl, hd, ow, at_, h1, h2⟩ := hs
    obtain ⟨g, hg, hm⟩ := more0 h2.inv h2.h8
    exact ⟨g, Lib.hid ⟨fl, hd, ow, at_, W, h1, h2, hm, by omega⟩⟩
  have HN := Lib.hid hn
  have HW := Lib.hid hW
  clear hs hn hW
  go_enter Tryz.func43, Tryz.ntmps43
  go_wp2
  go_loopg [] g0 (fun g wr => AtG w0 gd go ga has (W + 5) R g wr)
  case atStart => exact HAT.out
  case round =>
    clear HAT
    obtain ⟨fl, hd, ow, at_, W1, hst, hG, hM, hle⟩ := hrel
    obtain ⟨x, hx, hM'⟩ := id hM
    have HM := Lib.hid hM
    have HLE := Lib.hid hle
    have HST := Lib.hid hst
    have HG := Lib.hid hG
    have HX := Lib.hid hx
    have m8 : (hd : Int) < 8 := by have := hG.h8; omega
    have m0 : (0 : Int) ≤ (hd : Int) := by omega
    clear hM hle hst
    obtain ⟨gf, c, no, na, hc, H⟩ := HST.out
    have HS := Lib.hid H
    have HC := Lib.hid hc
    clear H hc
    have d0 : ∀ z : LaterOf wr, z.w.cell? ⟨gd, 0, none⟩ = some (.slice (some ⟨gf, 0, none⟩) 8 c) := fun z => z.cell (HS.out.cell 0 rfl (k := 0) rfl)
    have d1 : ∀ z : LaterOf wr, z.w.cell? ⟨gd, 1, none⟩ = some (.int .i64 (hd : Int)) := fun z => z.cell (HS.out.cell 0 rfl (k := 1) rfl)
    by_cases h4 : x.done = 4
    · have d2 : ∀ z : LaterOf wr, z.w.cell? ⟨gf, hd * 6 + 4, none⟩ = some (.int .i64 4) := fun z => z.cell (by rw [← h4]; exact fl_done HS.out HX.out)
      have H4 := Lib.hid h4
      obtain ⟨y, hy, hy0⟩ := hG.blank
      have HY := Lib.hid hy
      have HY0 := Lib.hid hy0
      have HBIG : Hid (W1 < 1048576) := Lib.hid (by have := HLE.out; have := HW.out; omega)
      have HNX : Hid (((hd + 1) % 8 + 1) % 8 < 8) := Lib.hid (by omega)
      clear hG hx hM' h4 hy hy0
      go_upto_region 0 with (fail)
      refine wp_region_later (by kernel_rfl) (by kernel_rfl) ?_
      repeat (go_big_quiet_step (fail))
      refine wpQuiet_nil ?_; intro xw hw'; obtain ⟨xq, hw''⟩ := hw'; obtain ⟨xw0, xh⟩ := xq; change xw = xw0 at hw''; subst hw''
      have HST2 := Lib.hid (HST.out.later xh)
      clear d0 d1 d2 HS xh HST
      obtain ⟨z, hz⟩ : ∃ z, fl[((hd + 1) % 8 + 1) % 8]? = some z := ⟨_, List.getElem?_eq_getElem (by rw [HG.out.inv.rt.1]; exact HNX.out)⟩
      have HZ := Lib.hid hz
      clear hz
      go_wp2_with fail
      refine (advance_any gd go ga hd ((hd + 1) % 8) (((hd + 1) % 8 + 1) % 8) W1 fl y z ow at_ has R w0 _ HST2.out HG.out.inv HG.out.h8 rfl rfl HBIG.out HY.out HY0.out HZ.out).mono ?_
      rintro en w5 ⟨rfl, fl', ow', at', hst5, hwent⟩
      obtain ⟨g', hg', hm'⟩ := more_next HG.out.h8 HX.out H4.out HM.out hwent
      have HR : Hid (AtG w0 gd go ga has (W + 5) R g' w5) := Lib.hid ⟨fl', _, ow', at', W1 + 1, hst5, ⟨hwent.inv, by omega, hwent.blank⟩, hm', by have := HLE.out; omega⟩
      have HGG := Lib.hid hg'
      clear hst5 hwent hm' hg' HLE HM HG HST2
      go_wp2
      go_roundg g'
      case measure => exact HGG.out
      case rel => exact HR.out
    · obtain ⟨p, hp, hp4⟩ : ∃ p : Nat, x.done = (p : Int) ∧ p < 4 := by
        have h1 := hG.inv.rt.2 x (List.mem_of_getElem? hx)
        have h2 := h1.d0
        have h3 := h1.d4
        exact ⟨x.done.toNat, by omega, by omega⟩
      have d2 : ∀ z : LaterOf wr, z.w.cell? ⟨gf, hd * 6 + 4, none⟩ = some (.int .i64 (p : Int)) := fun z => z.cell (by rw [← hp]; exact fl_done HS.out HX.out)
      have hz : ((p : Int) == 4) = false := by simp; omega
      have HP := Lib.hid hp
      have HP4 := Lib.hid hp4
      have HWW : Hid (W1 ≤ W + 5) := Lib.hid (by have := HLE.out; omega)
      clear hG hx hM' h4 hp hp4
      go_upto_region 0 with (fail)
      refine wp_region_later (by kernel_rfl) (by kernel_rfl) ?_
      repeat (go_big_quiet_step (fail))
      refine wpQuiet_nil ?_; intro xw hw'; obtain ⟨xq, hw''⟩ := hw'; obtain ⟨xw0, xh⟩ := xq; change xw = xw0 at hw''; subst hw''
      have HST2 := Lib.hid (HST.out.later xh)
      clear d0 d1 d2 HS xh HST hz
      go_wp2_with fail
      refine (program_any gd go ga hd n p W1 d x fl ow at_ has R w0 _ HST2.out HG.out.inv HG.out.h8 HX.out HP4.out HP.out HN.out).mono ?_
      rintro en w5 ⟨rfl, hst5⟩
      have HR : Hid (Is w0 gd go ga (mup has (n : Int) d) (W + 5) R w5) := Lib.hid ⟨_, _, _, _, hst5, (by
        have := HG.out.put HX.out HP4.out HP.out HN.out (d := d)
        exact ⟨this.inv.mono HWW.out, this.h8, this.blank⟩)⟩
      clear hst5 HST2 HG HM
      go_wp2
      refine bodyPost_end (v := .tuple #[]) (by simp [results, Tryz.results43]) rfl ?_
      exact ⟨rfl, HR.out⟩
end Ft
end Go.Proofs.YtjopiepfjbnkbaaGreatDoor
/-! Walk of ftl's step. Conditions: none beyond the theorem's own premises. -/
namespace Go.Proofs.YtjopiepfjbnkbaaGreatDoor
open Go.RowKit
set_option linter.unusedVariables false
namespace Ft
open Nd (B Rt RtB)

def O.cells (o : O) : List Value := [.int .i64 o.kind, .int .i64 o.n, .int .i64 o.data]
/-- what comes of an operation: error, data, what each number has then -/
inductive Way (has : Int → Option Int) : O → Int → Int → (Int → Option Int) → Prop
  | kind {k n d : Int} (h : k < 1 ∨ 3 < k) : Way has ⟨k, n, d⟩ 5 0 has
  | range {k n d : Int} (h0 : 1 ≤ k) (h1 : k ≤ 3) (h : n < 0 ∨ 16 ≤ n) : Way has ⟨k, n, d⟩ 2 0 has
  | write {d : Int} {n : Nat} (hn : n < 16) : Way has ⟨1, n, d⟩ 0 0 (mup has (n : Int) d)
  | none {k : Int} {n : Nat} {d : Int} (hn : n < 16) (hk : k = 2 ∨ k = 3) (hh : has (n : Int) = .none) : Way has ⟨k, n, d⟩ 3 0 has
  | read {d : Int} {n : Nat} {z : Int} (hn : n < 16) (hh : has (n : Int) = some z) : Way has ⟨2, n, d⟩ 0 z has
  | trim {d : Int} {n : Nat} {z : Int} (hn : n < 16) (hh : has (n : Int) = some z) : Way has ⟨3, n, d⟩ 0 0 (mdel has (n : Int))
theorem way_ex (has : Int → Option Int) (o : O) : ∃ e d has', Way has o e d has' := by
  obtain ⟨k, n, d⟩ := o
  by_cases h : k < 1 ∨ 3 < k
  · exact ⟨_, _, _, .kind h⟩
  by_cases hn : n < 0 ∨ 16 ≤ n
  · exact ⟨_, _, _, .range (by omega) (by omega) hn⟩
  obtain ⟨m, rfl⟩ := Int.eq_ofNat_of_zero_le (show 0 ≤ n by omega)
  have hm : m < 16 := by omega
  by_cases h1 : k = 1
  · subst h1
    exact ⟨_, _, _, .write hm⟩
  cases hh : has (m : Int) with
  | none => exact ⟨_, _, _, .none hm (by omega) hh⟩
  | some z =>
    by_cases h2 : k = 2
    · subst h2
      exact ⟨_, _, _, .read hm hh⟩
    · obtain rfl : k = 3 := by omega
      exact ⟨_, _, _, .trim hm hh⟩
def StepRet (w0 : World) (gd go ga : Nat) (has' : Int → Option Int) (W : Nat) (R : List It) (e d : Int) (en : Ending) (w' : World) : Prop :=
  en = .returned (.agg #[.int .i64 e, .int .i64 d]) ∧ Is w0 gd go ga has' W R w'
theorem Good.mono {fl : List B} {hd : Nat} {ow : S → Option Int} {at_ : Int → Option S} {has : Int → Option Int} {W W' : Nat} (G : Good fl hd ow at_ has W) (h : W ≤ W') : Good fl hd ow at_ has W' := ⟨G.inv.mono h, G.h8, G.blank⟩
theorem Good.trim {fl : List B} {hd : Nat} {ow : S → Option Int} {at_ : Int → Option S} {has : Int → Option Int} {W : Nat} (G : Good fl hd ow at_ has W) (n : Int) : Good fl hd ow (mdel at_ n) (mdel has n) W := ⟨G.inv.trim n, G.h8, G.blank⟩

set_option maxRecDepth 100000 in
set_option maxHeartbeats 12800000 in
theorem step_any (gd go ga W : Nat) (o : O) (e d : Int) (has has' : Int → Option Int) (R : List It) (w0 w : World) (hs : Is w0 gd go ga has W R w) (hw : Way has o e d has') (hwf : (Lit.int .i64 o.n).wf = true) (hW : W + 5 < 1048576) :
    Calls Tryz.prog 22 #[.pointer (some ⟨gd, 0, none⟩), .agg #[.int .i64 o.kind, .int .i64 o.n, .int .i64 o.data]] w (StepRet w0 gd go ga has' (W + 5) R e d) := by
  obtain ⟨ok, on, od⟩ := o
  obtain ⟨fl, hd, ow, at_, hst, hg⟩ := hs
  obtain ⟨gf, c, no, na, hc, H0⟩ := (hst.boxed 36 [.int .i64 ok, .int .i64 on, .int .i64 od]).boxed 41 [.int .i64 0, .int .i64 0]
  have HB : Hid (Sep w0 ((w.alloc (.cells #[.int .i64 ok, .int .i64 on, .int .i64 od] 36)).alloc (.cells #[.int .i64 0, .int .i64 0] 41)) (dI gd (.slice (some ⟨gf, 0, none⟩) 8 c) hd go ga :: flI (some ⟨gf, 0, none⟩) c fl :: owI go no ow :: atI ga na at_ :: .cells (w.heap.size + 1) 41 [.int .i64 0, .int .i64 0] :: .cells w.heap.size 36 [.int .i64 ok, .int .i64 on, .int .i64 od] :: R)) := Lib.hid (by simpa using H0)
  have HC := Lib.hid hc
  have HG := Lib.hid hg
  have HG5 := Lib.hid (hg.mono (show W ≤ W + 5 by omega))
  have HWAY := Lib.hid hw
  have HBIG := Lib.hid hW
  obtain ⟨s0, th, hth, HAT⟩ : ∃ (s0 : S) (th : Bool), ((at_ on).elim (.agg #[.int .i64 0, .int .i64 0]) smk = .agg #[.int .i64 (s0.b : Int), .int .i64 (s0.p : Int)] ∧ (at_ on).isSome = th) ∧ Hid (at_ on = if th then some s0 else none) := by
    cases h : at_ on with
    | none => exact ⟨⟨0, 0⟩, false, ⟨rfl, rfl⟩, Lib.hid rfl⟩
    | some s0 => exact ⟨s0, true, ⟨rfl, rfl⟩, Lib.hid rfl⟩
  have HLK : Hid (∀ W' R', Sep w0 W' (dI gd (.slice (some ⟨gf, 0, none⟩) 8 c) hd go ga :: flI (some ⟨gf, 0, none⟩) c fl :: owI go no ow :: atI ga na at_ :: R') → (Instr.lookup 89 (.map (some ga)) (.int .i64 on) true).run Tryz.prog W' = .ok (.tuple #[.agg #[.int .i64 (s0.b : Int), .int .i64 (s0.p : Int)], .bool th]) W') := Lib.hid (fun W' R' H => by
    have := H.look2 3 rfl kint hwf Tryz.underlying89 (sz W')
    rw [hth.1, hth.2] at this
    exact this)
  clear hst H0 hc hg hw hwf hW hth
  go_enter Tryz.func22, Tryz.ntmps22
  go_upto_region 1 with (fail)
  generalize (w.alloc (.cells #[.int .i64 ok, .int .i64 on, .int .i64 od] 36)).alloc (.cells #[.int .i64 0, .int .i64 0] 41) = wo at HB ⊢
  generalize w.heap.size + 1 = gr at HB ⊢
  generalize w.heap.size = gx at HB ⊢
  refine wp_region_inv0 (fun ac0 L ac w' => ∃ x5 x6 x7 x8 x9 x10 x11 x12 x13 x14 x15 x16, ac = turn ac0 [(5, x5), (6, x6), (7, x7), (8, x8), (9, x9), (10, x10), (11, x11), (12, x12), (13, x13), (14, x14), (15, x15), (16, x16)] ∧ (L 0 = true → x8 = .pointer (some ⟨gd, 0, none⟩)) ∧ (L 1 = true → x9 = .pointer (some ⟨gd, 0, none⟩)) ∧ (L 2 = true → x10 = .pointer (some ⟨gd, 3, none⟩)) ∧ (L 3 = true → x11 = .map (some ga)) ∧ (L 4 = true → x12 = .pointer (some ⟨gx, 1, none⟩)) ∧ (L 5 = true → x13 = .int .i64 on) ∧ (L 6 = true → x14 = .tuple #[.agg #[.int .i64 (s0.b : Int), .int .i64 (s0.p : Int)], .bool th]) ∧ (L 7 = true → x7 = .tuple #[.agg #[.int .i64 (s0.b : Int), .int .i64 (s0.p : Int)], .bool th]) ∧ (L 8 = true → x15 = .agg #[.int .i64 (s0.b : Int), .int .i64 (s0.p : Int)]) ∧ (L 9 = true → x16 = .bool th) ∧ (L 12 = true → x6 = .bool th) ∧ (L 1 = true → L 0 = true) ∧ (L 2 = true → L 1 = true) ∧ (L 3 = true → L 2 = true) ∧ (L 5 = true → L 4 = true) ∧ (L 6 = true → L 3 = true ∧ L 5 = true) ∧ (L 7 = true → L 6 = true) ∧ (L 8 = true → L 7 = true) ∧ (L 9 = true → L 7 = true) ∧ (L 11 = true → L 0 = true ∧ L 1 = true ∧ L 2 = true ∧ L 3 = true ∧ L 4 = true ∧ L 5 = true ∧ L 6 = true ∧ L 7 = true ∧ L 8 = true ∧ L 10 = true) ∧ (L 12 = true → L 0 = true ∧ L 1 = true ∧ L 2 = true ∧ L 3 = true ∧ L 4 = true ∧ L 5 = true ∧ L 6 = true ∧ L 7 = true ∧ L 8 = true ∧ L 9 = true ∧ L 10 = true ∧ L 11 = true) ∧ (if L 11 = true then (∃ gs, x5 = .pointer (some ⟨gs, 0, none⟩) ∧ Sep w0 w' (dI gd (.slice (some ⟨gf, 0, none⟩) 8 c) hd go ga :: flI (some ⟨gf, 0, none⟩) c fl :: owI go no ow :: atI ga na at_ :: .cells gr 41 [.int .i64 0, .int .i64 0] :: .cells gx 36 [.int .i64 ok, .int .i64 on, .int .i64 od] :: .cells gs 136 [.int .i64 (s0.b : Int), .int .i64 (s0.p : Int)] :: R)) else (if L 10 = true then (∃ gs, x5 = .pointer (some ⟨gs, 0, none⟩) ∧ Sep w0 w' (dI gd (.slice (some ⟨gf, 0, none⟩) 8 c) hd go ga :: flI (some ⟨gf, 0, none⟩) c fl :: owI go no ow :: atI ga na at_ :: .cells gr 41 [.int .i64 0, .int .i64 0] :: .cells gx 36 [.int .i64 ok, .int .i64 on, .int .i64 od] :: .cells gs 136 [.int .i64 0, .int .i64 0] :: R)) else Sep w0 w' (dI gd (.slice (some ⟨gf, 0, none⟩) 8 c) hd go ga :: flI (some ⟨gf, 0, none⟩) c fl :: owI go no ow :: atI ga na at_ :: .cells gr 41 [.int .i64 0, .int .i64 0] :: .cells gx 36 [.int .i64 ok, .int .i64 on, .int .i64 od] :: R)))) rfl (by kernel_rfl) ?_ ?_ ?_
  · simp only [turn, List.foldl_cons, List.foldl_nil, List.setIfInBounds_toArray, List.set_cons_succ, List.set_cons_zero]
    exact ⟨_, _, _, _, _, _, _, _, _, _, _, _, rfl, (fun h => absurd h (by decide)), (fun h => absurd h (by decide)), (fun h => absurd h (by decide)), (fun h => absurd h (by decide)), (fun h => absurd h (by decide)), (fun h => absurd h (by decide)), (fun h => absurd h (by decide)), (fun h => absurd h (by decide)), (fun h => absurd h (by decide)), (fun h => absurd h (by decide)), (fun h => absurd h (by decide)), (fun h => absurd h (by decide)), (fun h => absurd h (by decide)), (fun h => absurd h (by decide)), (fun h => absurd h (by decide)), (fun h => absurd h (by decide)), (fun h => absurd h (by decide)), (fun h => absurd h (by decide)), (fun h => absurd h (by decide)), (fun h => absurd h (by decide)), (fun h => absurd h (by decide)), by simpa using HB.out.drew⟩
  · rintro L ac w' i o ⟨x5, x6, x7, x8, x9, x10, x11, x12, x13, x14, x15, x16, ha, p0, p1, p2, p3, p4, p5, p6, p7, p8, p9, p12, q1, q2, q3, q5, q6, q7, q8, q9, q11, q12, hS⟩ ho hi he
    simp only [turn, List.foldl_cons, List.foldl_nil, List.setIfInBounds_toArray, List.set_cons_succ, List.set_cons_zero] at ha ⊢
    subst ha
    rcases i with _|_|_|_|_|_|_|_|_|_|_|_|_|i
    all_goals cases ho
    all_goals simp [Region.binds] at he
    · have h1 : L 1 = false := by cases hh : L 1 with | false => rfl | true => (have hq := q1 hh; simp [hi] at hq)
      have h11 : L 11 = false := by cases hh : L 11 with | false => rfl | true => (have hq := q11 hh; simp [hi] at hq)
      have h12 : L 12 = false := by cases hh : L 12 with | false => rfl | true => (have hq := q12 hh; simp [hi] at hq)
      have h2 : L 2 = false := by cases hh : L 2 with | false => rfl | true => (have hq := q2 hh; simp [h1] at hq)
      have h3 : L 3 = false := by cases hh : L 3 with | false => rfl | true => (have hq := q3 hh; simp [h2] at hq)
      have h6 : L 6 = false := by cases hh : L 6 with | false => rfl | true => (have hq := q6 hh; simp [h3] at hq)
      have h7 : L 7 = false := by cases hh : L 7 with | false => rfl | true => (have hq := q7 hh; simp [h6] at hq)
      have h8 : L 8 = false := by cases hh : L 8 with | false => rfl | true => (have hq := q8 hh; simp [h7] at hq)
      have h9 : L 9 = false := by cases hh : L 9 with | false => rfl | true => (have hq := q9 hh; simp [h7] at hq)
      refine wpOp_step rfl (fun K hK => ?_)
      go_simp
      exact hK _ _ ⟨_, _, _, _, _, _, _, _, _, _, _, _, rfl, (fun _ => rfl), (by simp [h1]), (by simp [h2]), (by simp [h3]), (by first | exact p4 | exact fun _ => rfl), (by first | exact p5 | exact fun _ => rfl), (by simp [h6]), (by simp [h7]), (by simp [h8]), (by simp [h9]), (by simp [h12]), (by simp [h1]), (by simp [h2]), (by simp [h3]), (by simpa using q5), (by simp [h6]), (by simp [h7]), (by simp [h8]), (by simp [h9]), (by simp [h11]), (by simp [h12]), (by simpa [h1, h11, h12, h2, h3, h6, h7, h8, h9] using hS)⟩
    · have h2 : L 2 = false := by cases hh : L 2 with | false => rfl | true => (have hq := q2 hh; simp [hi] at hq)
      have h11 : L 11 = false := by cases hh : L 11 with | false => rfl | true => (have hq := q11 hh; simp [hi] at hq)
      have h12 : L 12 = false := by cases hh : L 12 with | false => rfl | true => (have hq := q12 hh; simp [hi] at hq)
      have h3 : L 3 = false := by cases hh : L 3 with | false => rfl | true => (have hq := q3 hh; simp [h2] at hq)
      have h6 : L 6 = false := by cases hh : L 6 with | false => rfl | true => (have hq := q6 hh; simp [h3] at hq)
      have h7 : L 7 = false := by cases hh : L 7 with | false => rfl | true => (have hq := q7 hh; simp [h6] at hq)
      have h8 : L 8 = false := by cases hh : L 8 with | false => rfl | true => (have hq := q8 hh; simp [h7] at hq)
      have h9 : L 9 = false := by cases hh : L 9 with | false => rfl | true => (have hq := q9 hh; simp [h7] at hq)
      obtain rfl := p0 (by simp [he])
      refine wpOp_step rfl (fun K hK => ?_)
      go_simp
      exact hK _ _ ⟨_, _, _, _, _, _, _, _, _, _, _, _, rfl, (by first | exact p0 | exact fun _ => rfl), (fun _ => rfl), (by simp [h2]), (by simp [h3]), (by first | exact p4 | exact fun _ => rfl), (by first | exact p5 | exact fun _ => rfl), (by simp [h6]), (by simp [h7]), (by simp [h8]), (by simp [h9]), (by simp [h12]), (by simp [he]), (by simp [h2]), (by simp [h3]), (by simpa using q5), (by simp [h6]), (by simp [h7]), (by simp [h8]), (by simp [h9]), (by simp [h11]), (by simp [h12]), (by simpa [h2, h11, h12, h3, h6, h7, h8, h9] using hS)⟩
    · have h3 : L 3 = false := by cases hh : L 3 with | false => rfl | true => (have hq := q3 hh; simp [hi] at hq)
      have h11 : L 11 = false := by cases hh : L 11 with | false => rfl | true => (have hq := q11 hh; simp [hi] at hq)
      have h12 : L 12 = false := by cases hh : L 12 with | false => rfl | true => (have hq := q12 hh; simp [hi] at hq)
      have h6 : L 6 = false := by cases hh : L 6 with | false => rfl | true => (have hq := q6 hh; simp [h3] at hq)
      have h7 : L 7 = false := by cases hh : L 7 with | false => rfl | true => (have hq := q7 hh; simp [h6] at hq)
      have h8 : L 8 = false := by cases hh : L 8 with | false => rfl | true => (have hq := q8 hh; simp [h7] at hq)
      have h9 : L 9 = false := by cases hh : L 9 with | false => rfl | true => (have hq := q9 hh; simp [h7] at hq)
      obtain rfl := p1 (by simp [he])
      refine wpOp_step rfl (fun K hK => ?_)
      go_simp
      exact hK _ _ ⟨_, _, _, _, _, _, _, _, _, _, _, _, rfl, (by first | exact p0 | exact fun _ => rfl), (by first | exact p1 | exact fun _ => rfl), (fun _ => rfl), (by simp [h3]), (by first | exact p4 | exact fun _ => rfl), (by first | exact p5 | exact fun _ => rfl), (by simp [h6]), (by simp [h7]), (by simp [h8]), (by simp [h9]), (by simp [h12]), (by simpa using q1), (by simp [he]), (by simp [h3]), (by simpa using q5), (by simp [h6]), (by simp [h7]), (by simp [h8]), (by simp [h9]), (by simp [h11]), (by simp [h12]), (by simpa [h3, h11, h12, h6, h7, h8, h9] using hS)⟩
    · have h6 : L 6 = false := by cases hh : L 6 with | false => rfl | true => (have hq := q6 hh; simp [hi] at hq)
      have h11 : L 11 = false := by cases hh : L 11 with | false => rfl | true => (have hq := q11 hh; simp [hi] at hq)
      have h12 : L 12 = false := by cases hh : L 12 with | false => rfl | true => (have hq := q12 hh; simp [hi] at hq)
      have h7 : L 7 = false := by cases hh : L 7 with | false => rfl | true => (have hq := q7 hh; simp [h6] at hq)
      have h8 : L 8 = false := by cases hh : L 8 with | false => rfl | true => (have hq := q8 hh; simp [h7] at hq)
      have h9 : L 9 = false := by cases hh : L 9 with | false => rfl | true => (have hq := q9 hh; simp [h7] at hq)
      obtain rfl := p2 (by simp [he])
      have f0 : w'.cell? ⟨gd, 3, none⟩ = some (.map (some ga)) := by
        rw [if_neg (by simp [h11])] at hS
        split at hS
        · obtain ⟨gs, _, S⟩ := hS
          exact S.cell 0 rfl rfl
        · exact hS.cell 0 rfl rfl
      refine wpOp_step rfl (fun K hK => ?_)
      go_simp
      exact hK _ _ ⟨_, _, _, _, _, _, _, _, _, _, _, _, rfl, (by first | exact p0 | exact fun _ => rfl), (by first | exact p1 | exact fun _ => rfl), (by first | exact p2 | exact fun _ => rfl), (fun _ => rfl), (by first | exact p4 | exact fun _ => rfl), (by first | exact p5 | exact fun _ => rfl), (by simp [h6]), (by simp [h7]), (by simp [h8]), (by simp [h9]), (by simp [h12]), (by simpa using q1), (by simpa using q2), (by simp [he]), (by simpa using q5), (by simp [h6]), (by simp [h7]), (by simp [h8]), (by simp [h9]), (by simp [h11]), (by simp [h12]), (by simpa [h6, h11, h12, h7, h8, h9] using hS)⟩
    · have h5 : L 5 = false := by cases hh : L 5 with | false => rfl | true => (have hq := q5 hh; simp [hi] at hq)
      have h11 : L 11 = false := by cases hh : L 11 with | false => rfl | true => (have hq := q11 hh; simp [hi] at hq)
      have h12 : L 12 = false := by cases hh : L 12 with | false => rfl | true => (have hq := q12 hh; simp [hi] at hq)
      have h6 : L 6 = false := by cases hh : L 6 with | false => rfl | true => (have hq := q6 hh; simp [h5] at hq)
      have h7 : L 7 = false := by cases hh : L 7 with | false => rfl | true => (have hq := q7 hh; simp [h6] at hq)
      have h8 : L 8 = false := by cases hh : L 8 with | false => rfl | true => (have hq := q8 hh; simp [h7] at hq)
      have h9 : L 9 = false := by cases hh : L 9 with | false => rfl | true => (have hq := q9 hh; simp [h7] at hq)
      refine wpOp_step rfl (fun K hK => ?_)
      go_simp
      exact hK _ _ ⟨_, _, _, _, _, _, _, _, _, _, _, _, rfl, (by first | exact p0 | exact fun _ => rfl), (by first | exact p1 | exact fun _ => rfl), (by first | exact p2 | exact fun _ => rfl), (by first | exact p3 | exact fun _ => rfl), (fun _ => rfl), (by simp [h5]), (by simp [h6]), (by simp [h7]), (by simp [h8]), (by simp [h9]), (by simp [h12]), (by simpa using q1), (by simpa using q2), (by simpa using q3), (by simp [h5]), (by simp [h6]), (by simp [h7]), (by simp [h8]), (by simp [h9]), (by simp [h11]), (by simp [h12]), (by simpa [h5, h11, h12, h6, h7, h8, h9] using hS)⟩
    · have h6 : L 6 = false := by cases hh : L 6 with | false => rfl | true => (have hq := q6 hh; simp [hi] at hq)
      have h11 : L 11 = false := by cases hh : L 11 with | false => rfl | true => (have hq := q11 hh; simp [hi] at hq)
      have h12 : L 12 = false := by cases hh : L 12 with | false => rfl | true => (have hq := q12 hh; simp [hi] at hq)
      have h7 : L 7 = false := by cases hh : L 7 with | false => rfl | true => (have hq := q7 hh; simp [h6] at hq)
      have h8 : L 8 = false := by cases hh : L 8 with | false => rfl | true => (have hq := q8 hh; simp [h7] at hq)
      have h9 : L 9 = false := by cases hh : L 9 with | false => rfl | true => (have hq := q9 hh; simp [h7] at hq)
      obtain rfl := p4 (by simp [he])
      have f0 : w'.cell? ⟨gx, 1, none⟩ = some (.int .i64 on) := by
        rw [if_neg (by simp [h11])] at hS
        split at hS
        · obtain ⟨gs, _, S⟩ := hS
          exact S.cell 5 rfl rfl
        · exact hS.cell 5 rfl rfl
      refine wpOp_step rfl (fun K hK => ?_)
      go_simp
      exact hK _ _ ⟨_, _, _, _, _, _, _, _, _, _, _, _, rfl, (by first | exact p0 | exact fun _ => rfl), (by first | exact p1 | exact fun _ => rfl), (by first | exact p2 | exact fun _ => rfl), (by first | exact p3 | exact fun _ => rfl), (by first | exact p4 | exact fun _ => rfl), (fun _ => rfl), (by simp [h6]), (by simp [h7]), (by simp [h8]), (by simp [h9]), (by simp [h12]), (by simpa using q1), (by simpa using q2), (by simpa using q3), (by simp [he]), (by simp [h6]), (by simp [h7]), (by simp [h8]), (by simp [h9]), (by simp [h11]), (by simp [h12]), (by simpa [h6, h11, h12, h7, h8, h9] using hS)⟩
    · have h7 : L 7 = false := by cases hh : L 7 with | false => rfl | true => (have hq := q7 hh; simp [hi] at hq)
      have h11 : L 11 = false := by cases hh : L 11 with | false => rfl | true => (have hq := q11 hh; simp [hi] at hq)
      have h12 : L 12 = false := by cases hh : L 12 with | false => rfl | true => (have hq := q12 hh; simp [hi] at hq)
      have h8 : L 8 = false := by cases hh : L 8 with | false => rfl | true => (have hq := q8 hh; simp [h7] at hq)
      have h9 : L 9 = false := by cases hh : L 9 with | false => rfl | true => (have hq := q9 hh; simp [h7] at hq)
      obtain rfl := p3 (by simp [he])
      obtain rfl := p5 (by simp [he])
      have l1 : (Instr.lookup 89 (.map (some ga)) (.int .i64 on) true).run Tryz.prog w' = .ok (.tuple #[.agg #[.int .i64 (s0.b : Int), .int .i64 (s0.p : Int)], .bool th]) w' := by
        rw [if_neg (by simp [h11])] at hS
        split at hS
        · obtain ⟨gs, _, S⟩ := hS
          exact HLK.out _ _ S
        · exact HLK.out _ _ hS
      refine wpOp_step rfl (fun K hK => ?_)
      go_simp
      exact hK _ _ ⟨_, _, _, _, _, _, _, _, _, _, _, _, rfl, (by first | exact p0 | exact fun _ => rfl), (by first | exact p1 | exact fun _ => rfl), (by first | exact p2 | exact fun _ => rfl), (by first | exact p3 | exact fun _ => rfl), (by first | exact p4 | exact fun _ => rfl), (by first | exact p5 | exact fun _ => rfl), (fun _ => rfl), (by simp [h7]), (by simp [h8]), (by simp [h9]), (by simp [h12]), (by simpa using q1), (by simpa using q2), (by simpa using q3), (by simpa using q5), (by simp [he]), (by simp [h7]), (by simp [h8]), (by simp [h9]), (by simp [h11]), (by simp [h12]), (by simpa [h7, h11, h12, h8, h9] using hS)⟩
    · have h8 : L 8 = false := by cases hh : L 8 with | false => rfl | true => (have hq := q8 hh; simp [hi] at hq)
      have h9 : L 9 = false := by cases hh : L 9 with | false => rfl | true => (have hq := q9 hh; simp [hi] at hq)
      have h11 : L 11 = false := by cases hh : L 11 with | false => rfl | true => (have hq := q11 hh; simp [hi] at hq)
      have h12 : L 12 = false := by cases hh : L 12 with | false => rfl | true => (have hq := q12 hh; simp [hi] at hq)
      obtain rfl := p6 (by simp [he])
      refine wpOp_step rfl (fun K hK => ?_)
      go_simp
      exact hK _ _ ⟨_, _, _, _, _, _, _, _, _, _, _, _, rfl, (by first | exact p0 | exact fun _ => rfl), (by first | exact p1 | exact fun _ => rfl), (by first | exact p2 | exact fun _ => rfl), (by first | exact p3 | exact fun _ => rfl), (by first | exact p4 | exact fun _ => rfl), (by first | exact p5 | exact fun _ => rfl), (by first | exact p6 | exact fun _ => rfl), (fun _ => rfl), (by simp [h8]), (by simp [h9]), (by simp [h12]), (by simpa using q1), (by simpa using q2), (by simpa using q3), (by simpa using q5), (by simpa using q6), (by simp [he]), (by simp [h8]), (by simp [h9]), (by simp [h11]), (by simp [h12]), (by simpa [h8, h9, h11, h12] using hS)⟩
    · have h11 : L 11 = false := by cases hh : L 11 with | false => rfl | true => (have hq := q11 hh; simp [hi] at hq)
      have h12 : L 12 = false := by cases hh : L 12 with | false => rfl | true => (have hq := q12 hh; simp [hi] at hq)
      obtain rfl := p7 (by simp [he])
      refine wpOp_step rfl (fun K hK => ?_)
      go_simp
      exact hK _ _ ⟨_, _, _, _, _, _, _, _, _, _, _, _, rfl, (by first | exact p0 | exact fun _ => rfl), (by first | exact p1 | exact fun _ => rfl), (by first | exact p2 | exact fun _ => rfl), (by first | exact p3 | exact fun _ => rfl), (by first | exact p4 | exact fun _ => rfl), (by first | exact p5 | exact fun _ => rfl), (by first | exact p6 | exact fun _ => rfl), (by first | exact p7 | exact fun _ => rfl), (fun _ => rfl), (by first | exact p9 | exact fun _ => rfl), (by simp [h12]), (by simpa using q1), (by simpa using q2), (by simpa using q3), (by simpa using q5), (by simpa using q6), (by simpa using q7), (by simp [he]), (by simpa using q9), (by simp [h11]), (by simp [h12]), (by simpa [h11, h12] using hS)⟩
    · have h12 : L 12 = false := by cases hh : L 12 with | false => rfl | true => (have hq := q12 hh; simp [hi] at hq)
      obtain rfl := p7 (by simp [he])
      refine wpOp_step rfl (fun K hK => ?_)
      go_simp
      exact hK _ _ ⟨_, _, _, _, _, _, _, _, _, _, _, _, rfl, (by first | exact p0 | exact fun _ => rfl), (by first | exact p1 | exact fun _ => rfl), (by first | exact p2 | exact fun _ => rfl), (by first | exact p3 | exact fun _ => rfl), (by first | exact p4 | exact fun _ => rfl), (by first | exact p5 | exact fun _ => rfl), (by first | exact p6 | exact fun _ => rfl), (by first | exact p7 | exact fun _ => rfl), (by first | exact p8 | exact fun _ => rfl), (fun _ => rfl), (by simp [h12]), (by simpa using q1), (by simpa using q2), (by simpa using q3), (by simpa using q5), (by simpa using q6), (by simpa using q7), (by simpa using q8), (by simp [he]), (by simpa using q11), (by simp [h12]), (by simpa [h12] using hS)⟩
    · have h11 : L 11 = false := by cases hh : L 11 with | false => rfl | true => (have hq := q11 hh; simp [hi] at hq)
      have h12 : L 12 = false := by cases hh : L 12 with | false => rfl | true => (have hq := q12 hh; simp [hi] at hq)
      rw [if_neg (by simp [h11]), if_neg (by simp [hi])] at hS
      have hN := (hS.new 136 [.int .i64 0, .int .i64 0]).perm (L' := dI gd (.slice (some ⟨gf, 0, none⟩) 8 c) hd go ga :: flI (some ⟨gf, 0, none⟩) c fl :: owI go no ow :: atI ga na at_ :: .cells gr 41 [.int .i64 0, .int .i64 0] :: .cells gx 36 [.int .i64 ok, .int .i64 on, .int .i64 od] :: .cells w'.heap.size 136 [.int .i64 0, .int .i64 0] :: R) (.cons _ (.cons _ (.cons _ (.cons _ (.cons _ (.cons _ (List.perm_append_comm (l₁ := [It.cells w'.heap.size 136 [.int .i64 0, .int .i64 0]]) (l₂ := R))))))))
      refine wpOp_step rfl (fun K hK => ?_)
      go_simp
      exact hK _ _ ⟨_, _, _, _, _, _, _, _, _, _, _, _, rfl, (by first | exact p0 | exact fun _ => rfl), (by first | exact p1 | exact fun _ => rfl), (by first | exact p2 | exact fun _ => rfl), (by first | exact p3 | exact fun _ => rfl), (by first | exact p4 | exact fun _ => rfl), (by first | exact p5 | exact fun _ => rfl), (by first | exact p6 | exact fun _ => rfl), (by first | exact p7 | exact fun _ => rfl), (by first | exact p8 | exact fun _ => rfl), (by first | exact p9 | exact fun _ => rfl), (by simp [h12]), (by simpa using q1), (by simpa using q2), (by simpa using q3), (by simpa using q5), (by simpa using q6), (by simpa using q7), (by simpa using q8), (by simpa using q9), (by simp [h11]), (by simp [h12]), (by rw [if_neg (by simp [h11]), if_pos (by simp)]; exact ⟨_, rfl, hN⟩)⟩
    · have h12 : L 12 = false := by cases hh : L 12 with | false => rfl | true => (have hq := q12 hh; simp [hi] at hq)
      obtain rfl := p8 (by simp [he])
      have t10 : L 10 = true := by simp [he]
      rw [if_neg (by simp [hi]), if_pos t10] at hS
      obtain ⟨gs, rfl, hS⟩ := hS
      have e0 := hS.cell 6 rfl (k := 0) rfl
      have e1 := hS.cell 6 rfl (k := 1) rfl
      have u0 := hS.froz 6 rfl (k := 0)
      have u1 := hS.froz 6 rfl (k := 1)
      have hN := (hS.set 6 rfl (k := 0) (.int .i64 (s0.b : Int))).set 6 rfl (k := 1) (.int .i64 (s0.p : Int))
      refine wpOp_step rfl (fun K hK => ?_)
      go_simp
      exact hK _ _ ⟨_, _, _, _, _, _, _, _, _, _, _, _, rfl, (by first | exact p0 | exact fun _ => rfl), (by first | exact p1 | exact fun _ => rfl), (by first | exact p2 | exact fun _ => rfl), (by first | exact p3 | exact fun _ => rfl), (by first | exact p4 | exact fun _ => rfl), (by first | exact p5 | exact fun _ => rfl), (by first | exact p6 | exact fun _ => rfl), (by first | exact p7 | exact fun _ => rfl), (by first | exact p8 | exact fun _ => rfl), (by first | exact p9 | exact fun _ => rfl), (by simp [h12]), (by simpa using q1), (by simpa using q2), (by simpa using q3), (by simpa using q5), (by simpa using q6), (by simpa using q7), (by simpa using q8), (by simpa using q9), (by simp [he]), (by simp [h12]), (by rw [if_pos (by simp)]; exact ⟨_, rfl, hN⟩)⟩
    · obtain rfl := p9 (by simp [he])
      refine wpOp_step rfl (fun K hK => ?_)
      go_simp
      exact hK _ _ ⟨_, _, _, _, _, _, _, _, _, _, _, _, rfl, (by first | exact p0 | exact fun _ => rfl), (by first | exact p1 | exact fun _ => rfl), (by first | exact p2 | exact fun _ => rfl), (by first | exact p3 | exact fun _ => rfl), (by first | exact p4 | exact fun _ => rfl), (by first | exact p5 | exact fun _ => rfl), (by first | exact p6 | exact fun _ => rfl), (by first | exact p7 | exact fun _ => rfl), (by first | exact p8 | exact fun _ => rfl), (by first | exact p9 | exact fun _ => rfl), (fun _ => rfl), (by simpa using q1), (by simpa using q2), (by simpa using q3), (by simpa using q5), (by simpa using q6), (by simpa using q7), (by simpa using q8), (by simpa using q9), (by simpa using q11), (by simp [he]), (by simpa using hS)⟩
  · rintro L ac w' ⟨x5, x6, x7, x8, x9, x10, x11, x12, x13, x14, x15, x16, ha, p0, p1, p2, p3, p4, p5, p6, p7, p8, p9, p12, q1, q2, q3, q5, q6, q7, q8, q9, q11, q12, hS⟩ hall
    have t10 := hall 10 (by decide)
    have t11 := hall 11 (by decide)
    rw [if_pos t11] at hS
    obtain ⟨gs, rfl, hS⟩ := hS
    obtain rfl := p0 (hall 0 (by decide))
    obtain rfl := p1 (hall 1 (by decide))
    obtain rfl := p2 (hall 2 (by decide))
    obtain rfl := p3 (hall 3 (by decide))
    obtain rfl := p4 (hall 4 (by decide))
    obtain rfl := p5 (hall 5 (by decide))
    obtain rfl := p6 (hall 6 (by decide))
    obtain rfl := p7 (hall 7 (by decide))
    obtain rfl := p8 (hall 8 (by decide))
    obtain rfl := p9 (hall 9 (by decide))
    obtain rfl := p12 (hall 12 (by decide))
    simp only [turn, List.foldl_cons, List.foldl_nil, List.setIfInBounds_toArray, List.set_cons_succ, List.set_cons_zero] at ha
    subst ha
    clear q1 q2 q3 q5 q6 q7 q8 q9 q11 q12  t10 t11
    have HS := Lib.hid hS
    clear hS HB HLK
    have o0 := HS.out.cell 5 rfl (k := 0) rfl
    have o1 := HS.out.cell 5 rfl (k := 1) rfl
    have o2 := HS.out.cell 5 rfl (k := 2) rfl
    have hw := HWAY.out
    clear HWAY
    cases hw with
    | kind h =>
      have HFIN : Hid (∀ W' L', Sep w0 W' (dI gd (.slice (some ⟨gf, 0, none⟩) 8 c) hd go ga :: flI (some ⟨gf, 0, none⟩) c fl :: owI go no ow :: atI ga na at_ :: L') → L'.drop 3 = R → Is w0 gd go ga has (W + 5) R W') := Lib.hid (fun W' L' H e => ⟨_, _, _, _, ⟨_, _, _, _, HC.out, H.sub (.cons_cons _ (.cons_cons _ (.cons_cons _ (.cons_cons _ (by rw [← e]; exact List.drop_sublist _ _)))))⟩, HG5.out⟩)
      by_cases h0 : ok < 1
      · have e0 := HS.out.cell 4 rfl (k := 0) rfl
        have e1 := HS.out.cell 4 rfl (k := 1) rfl
        have u0 := HS.out.froz 4 rfl (k := 0)
        have u1 := HS.out.froz 4 rfl (k := 1)
        have H9 := Lib.hid ((HS.out.set 4 rfl (k := 0) (.int .i64 5)).set 4 rfl (k := 1) (.int .i64 0))
        have f0 := H9.out.cell 4 rfl (k := 0) rfl
        have f1 := H9.out.cell 4 rfl (k := 1) rfl
        go_wp2
        refine bodyPost_ret (v := .agg #[.int .i64 5, .int .i64 0]) (by simp [results, Tryz.results22, asAddr, Result.andThen, go_sem, f0, f1]) rfl ?_
        exact ⟨rfl, HFIN.out _ _ H9.out rfl⟩
      · have h3 : 3 < ok := h.resolve_left h0
        clear h
        have e0 := HS.out.cell 4 rfl (k := 0) rfl
        have e1 := HS.out.cell 4 rfl (k := 1) rfl
        have u0 := HS.out.froz 4 rfl (k := 0)
        have u1 := HS.out.froz 4 rfl (k := 1)
        have H9 := Lib.hid ((HS.out.set 4 rfl (k := 0) (.int .i64 5)).set 4 rfl (k := 1) (.int .i64 0))
        have f0 := H9.out.cell 4 rfl (k := 0) rfl
        have f1 := H9.out.cell 4 rfl (k := 1) rfl
        go_wp2
        refine bodyPost_ret (v := .agg #[.int .i64 5, .int .i64 0]) (by simp [results, Tryz.results22, asAddr, Result.andThen, go_sem, f0, f1]) rfl ?_
        exact ⟨rfl, HFIN.out _ _ H9.out rfl⟩
    | range h0 h1 h =>
      have HFIN : Hid (∀ W' L', Sep w0 W' (dI gd (.slice (some ⟨gf, 0, none⟩) 8 c) hd go ga :: flI (some ⟨gf, 0, none⟩) c fl :: owI go no ow :: atI ga na at_ :: L') → L'.drop 3 = R → Is w0 gd go ga has (W + 5) R W') := Lib.hid (fun W' L' H e => ⟨_, _, _, _, ⟨_, _, _, _, HC.out, H.sub (.cons_cons _ (.cons_cons _ (.cons_cons _ (.cons_cons _ (by rw [← e]; exact List.drop_sublist _ _)))))⟩, HG5.out⟩)
      have k0 : ¬ ok < 1 := by omega
      have k1 : ¬ 3 < ok := by omega
      clear h0 h1
      by_cases h0 : on < 0
      · have e0 := HS.out.cell 4 rfl (k := 0) rfl
        have e1 := HS.out.cell 4 rfl (k := 1) rfl
        have u0 := HS.out.froz 4 rfl (k := 0)
        have u1 := HS.out.froz 4 rfl (k := 1)
        have H9 := Lib.hid ((HS.out.set 4 rfl (k := 0) (.int .i64 2)).set 4 rfl (k := 1) (.int .i64 0))
        have f0 := H9.out.cell 4 rfl (k := 0) rfl
        have f1 := H9.out.cell 4 rfl (k := 1) rfl
        go_wp2
        refine bodyPost_ret (v := .agg #[.int .i64 2, .int .i64 0]) (by simp [results, Tryz.results22, asAddr, Result.andThen, go_sem, f0, f1]) rfl ?_
        exact ⟨rfl, HFIN.out _ _ H9.out rfl⟩
      · have h3 : 16 ≤ on := h.resolve_left h0
        clear h
        have e0 := HS.out.cell 4 rfl (k := 0) rfl
        have e1 := HS.out.cell 4 rfl (k := 1) rfl
        have u0 := HS.out.froz 4 rfl (k := 0)
        have u1 := HS.out.froz 4 rfl (k := 1)
        have H9 := Lib.hid ((HS.out.set 4 rfl (k := 0) (.int .i64 2)).set 4 rfl (k := 1) (.int .i64 0))
        have f0 := H9.out.cell 4 rfl (k := 0) rfl
        have f1 := H9.out.cell 4 rfl (k := 1) rfl
        go_wp2
        refine bodyPost_ret (v := .agg #[.int .i64 2, .int .i64 0]) (by simp [results, Tryz.results22, asAddr, Result.andThen, go_sem, f0, f1]) rfl ?_
        exact ⟨rfl, HFIN.out _ _ H9.out rfl⟩
    | @write _ n hn =>
      have k0 : ¬ (n : Int) < 0 := by omega
      have k1 : ¬ 16 ≤ (n : Int) := by omega
      have HIS : Hid (Is w0 gd go ga has W (.cells gr 41 [.int .i64 0, .int .i64 0] :: .cells gx 36 [.int .i64 1, .int .i64 (n : Int), .int .i64 od] :: .cells gs 136 [.int .i64 (s0.b : Int), .int .i64 (s0.p : Int)] :: R) _) := Lib.hid ⟨_, _, _, _, ⟨_, _, _, _, HC.out, HS.out⟩, HG.out⟩
      clear HS HG HC HG5
      go_wp2_with fail
      refine (write_any gd go ga W n od has _ w0 _ HIS.out hn HBIG.out).mono ?_
      rintro en w5 ⟨rfl, fl5, hd5, ow5, at5, ⟨gf5, c5, no5, na5, hc5, H5⟩, hg5⟩
      have HS := Lib.hid H5
      have HC := Lib.hid hc5
      have HG := Lib.hid hg5
      clear H5 hc5 hg5 HIS o0 o1 o2
      have e0 := HS.out.cell 4 rfl (k := 0) rfl
      have e1 := HS.out.cell 4 rfl (k := 1) rfl
      have u0 := HS.out.froz 4 rfl (k := 0)
      have u1 := HS.out.froz 4 rfl (k := 1)
      have H9 := Lib.hid ((HS.out.set 4 rfl (k := 0) (.int .i64 0)).set 4 rfl (k := 1) (.int .i64 0))
      have f0 := H9.out.cell 4 rfl (k := 0) rfl
      have f1 := H9.out.cell 4 rfl (k := 1) rfl
      go_wp2
      refine bodyPost_ret (v := .agg #[.int .i64 0, .int .i64 0]) (by simp [results, Tryz.results22, asAddr, Result.andThen, go_sem, f0, f1]) rfl ?_
      exact ⟨rfl, _, _, _, _, ⟨_, _, _, _, HC.out, H9.out.sub (.cons_cons _ (.cons_cons _ (.cons_cons _ (.cons_cons _ (.cons _ (.cons _ (.cons _ (.refl _))))))))⟩, HG.out⟩
    | @none _ n _ hn hk hh =>
      have HFIN : Hid (∀ W' L', Sep w0 W' (dI gd (.slice (some ⟨gf, 0, none⟩) 8 c) hd go ga :: flI (some ⟨gf, 0, none⟩) c fl :: owI go no ow :: atI ga na at_ :: L') → L'.drop 3 = R → Is w0 gd go ga has (W + 5) R W') := Lib.hid (fun W' L' H e => ⟨_, _, _, _, ⟨_, _, _, _, HC.out, H.sub (.cons_cons _ (.cons_cons _ (.cons_cons _ (.cons_cons _ (by rw [← e]; exact List.drop_sublist _ _)))))⟩, HG5.out⟩)
      obtain rfl : th = false := by
        cases th with
        | false => rfl
        | true =>
          obtain ⟨_, _, _, _, _, _, _, h9⟩ := HG.out.inv.spot _ _ HAT.out
          rw [hh] at h9
          cases h9
      have k0 : ¬ (n : Int) < 0 := by omega
      have k1 : ¬ 16 ≤ (n : Int) := by omega
      have k2 : ¬ ok < 1 := by omega
      have k3 : ¬ 3 < ok := by omega
      have k4 : (ok == 1) = false := by simp; omega
      clear hk hh hn
      have e0 := HS.out.cell 4 rfl (k := 0) rfl
      have e1 := HS.out.cell 4 rfl (k := 1) rfl
      have u0 := HS.out.froz 4 rfl (k := 0)
      have u1 := HS.out.froz 4 rfl (k := 1)
      have H9 := Lib.hid ((HS.out.set 4 rfl (k := 0) (.int .i64 3)).set 4 rfl (k := 1) (.int .i64 0))
      have f0 := H9.out.cell 4 rfl (k := 0) rfl
      have f1 := H9.out.cell 4 rfl (k := 1) rfl
      go_wp2
      refine bodyPost_ret (v := .agg #[.int .i64 3, .int .i64 0]) (by simp [results, Tryz.results22, asAddr, Result.andThen, go_sem, f0, f1]) rfl ?_
      exact ⟨rfl, HFIN.out _ _ H9.out rfl⟩
    | @read _ n z hn hh =>
      obtain rfl : th = true := by
        cases th with
        | true => rfl
        | false =>
          have h9 := HG.out.inv.no _ HAT.out
          rw [hh] at h9
          cases h9
      obtain ⟨_, _, _, x, hx, hp, hd', h9⟩ := HG.out.inv.spot _ _ HAT.out
      rw [hh] at h9
      cases h9
      have HX := Lib.hid hx
      have HP := Lib.hid hp
      have HD := Lib.hid hd'
      have k0 : ¬ (n : Int) < 0 := by omega
      have k1 : ¬ 16 ≤ (n : Int) := by omega
      have s0c := HS.out.cell 6 rfl (k := 0) rfl
      have s1c := HS.out.cell 6 rfl (k := 1) rfl
      have HIS : Hid (St w0 _ gd go ga fl hd ow at_ (.cells gr 41 [.int .i64 0, .int .i64 0] :: .cells gx 36 [.int .i64 2, .int .i64 (n : Int), .int .i64 od] :: .cells gs 136 [.int .i64 (s0.b : Int), .int .i64 (s0.p : Int)] :: R)) := Lib.hid ⟨_, _, _, _, HC.out, HS.out⟩
      clear HS HC hx hp hd' hh hn
      go_wp2_with fail
      refine (read_any gd go ga hd W fl x ow at_ has _ s0 w0 _ HIS.out HG.out.inv HX.out HP.out HD.out).mono ?_
      rintro en w5 ⟨rfl, gf5, c5, no5, na5, hc5, H5⟩
      have HS := Lib.hid H5
      have HC := Lib.hid hc5
      clear H5 hc5 HIS o0 o1 o2 s0c s1c
      have e0 := HS.out.cell 4 rfl (k := 0) rfl
      have e1 := HS.out.cell 4 rfl (k := 1) rfl
      have u0 := HS.out.froz 4 rfl (k := 0)
      have u1 := HS.out.froz 4 rfl (k := 1)
      have H9 := Lib.hid ((HS.out.set 4 rfl (k := 0) (.int .i64 0)).set 4 rfl (k := 1) (.int .i64 (x.at s0.p)))
      have f0 := H9.out.cell 4 rfl (k := 0) rfl
      have f1 := H9.out.cell 4 rfl (k := 1) rfl
      go_wp2
      refine bodyPost_ret (v := .agg #[.int .i64 0, .int .i64 (x.at s0.p)]) (by simp [results, Tryz.results22, asAddr, Result.andThen, go_sem, f0, f1]) rfl ?_
      exact ⟨rfl, _, _, _, _, ⟨_, _, _, _, HC.out, H9.out.sub (.cons_cons _ (.cons_cons _ (.cons_cons _ (.cons_cons _ (.cons _ (.cons _ (.cons _ (.refl _))))))))⟩, HG5.out⟩
    | @trim _ n z hn hh =>
      obtain rfl : th = true := by
        cases th with
        | true => rfl
        | false =>
          have h9 := HG.out.inv.no _ HAT.out
          rw [hh] at h9
          cases h9
      have k0 : ¬ (n : Int) < 0 := by omega
      have k1 : ¬ 16 ≤ (n : Int) := by omega
      have HNW : Hid ((Lit.int .i64 (n : Int)).wf = true) := Lib.hid (wf_small (by omega) (by omega))
      clear hh hn
      go_upto_region 2 with (fail)
      have HFIN : Hid (∀ W' L', Sep w0 W' (dI gd (.slice (some ⟨gf, 0, none⟩) 8 c) hd go ga :: flI (some ⟨gf, 0, none⟩) c fl :: owI go no ow :: atI ga (if (at_ (n : Int)).isSome then na - 1 else na) (mdel at_ (n : Int)) :: L') → L'.drop 3 = R → StepRet w0 gd go ga (mdel has (n : Int)) (W + 5) R 0 0 (.returned (.agg #[.int .i64 0, .int .i64 0])) W') := Lib.hid (fun W' L' H e => ⟨rfl, _, _, _, _, ⟨_, _, _, _, HC.out, H.sub (.cons_cons _ (.cons_cons _ (.cons_cons _ (.cons_cons _ (by rw [← e]; exact List.drop_sublist _ _)))))⟩, HG5.out.trim _⟩)
      have HB : Hid (Sep w0 _ (dI gd (.slice (some ⟨gf, 0, none⟩) 8 c) hd go ga :: flI (some ⟨gf, 0, none⟩) c fl :: owI go no ow :: atI ga na at_ :: .cells gr 41 [.int .i64 0, .int .i64 0] :: .cells gx 36 [.int .i64 3, .int .i64 (n : Int), .int .i64 od] :: .cells gs 136 [.int .i64 (s0.b : Int), .int .i64 (s0.p : Int)] :: R)) := Lib.hid HS.out
      clear HS o0 o1 o2
      generalize hRR : It.cells gs 136 [.int .i64 (s0.b : Int), .int .i64 (s0.p : Int)] :: R = RR at HB
      have HRR := Lib.hid hRR
      clear hRR
      refine wp_region_inv0 (fun ac0 L ac w' => ∃ x17 x18 x19 x20 x21 x22, ac = turn ac0 [(17, x17), (18, x18), (19, x19), (20, x20), (21, x21), (22, x22)] ∧ (L 0 = true → x17 = .pointer (some ⟨gd, 0, none⟩)) ∧ (L 1 = true → x18 = .pointer (some ⟨gd, 0, none⟩)) ∧ (L 2 = true → x19 = .pointer (some ⟨gd, 3, none⟩)) ∧ (L 3 = true → x20 = .map (some ga)) ∧ (L 4 = true → x21 = .pointer (some ⟨gx, 1, none⟩)) ∧ (L 5 = true → x22 = .int .i64 (n : Int)) ∧ (L 1 = true → L 0 = true) ∧ (L 2 = true → L 1 = true) ∧ (L 3 = true → L 2 = true) ∧ (L 5 = true → L 4 = true) ∧ (L 6 = true → L 3 = true ∧ L 5 = true) ∧ (if L 6 = true then (Sep w0 w' (dI gd (.slice (some ⟨gf, 0, none⟩) 8 c) hd go ga :: flI (some ⟨gf, 0, none⟩) c fl :: owI go no ow :: atI ga (if (at_ (n : Int)).isSome then na - 1 else na) (mdel at_ (n : Int)) :: .cells gr 41 [.int .i64 0, .int .i64 0] :: .cells gx 36 [.int .i64 3, .int .i64 (n : Int), .int .i64 od] :: RR)) else Sep w0 w' (dI gd (.slice (some ⟨gf, 0, none⟩) 8 c) hd go ga :: flI (some ⟨gf, 0, none⟩) c fl :: owI go no ow :: atI ga na at_ :: .cells gr 41 [.int .i64 0, .int .i64 0] :: .cells gx 36 [.int .i64 3, .int .i64 (n : Int), .int .i64 od] :: RR))) rfl (by kernel_rfl) ?_ ?_ ?_
      · simp only [turn, List.foldl_cons, List.foldl_nil, List.setIfInBounds_toArray, List.set_cons_succ, List.set_cons_zero]
        exact ⟨_, _, _, _, _, _, rfl, (fun h => absurd h (by decide)), (fun h => absurd h (by decide)), (fun h => absurd h (by decide)), (fun h => absurd h (by decide)), (fun h => absurd h (by decide)), (fun h => absurd h (by decide)), (fun h => absurd h (by decide)), (fun h => absurd h (by decide)), (fun h => absurd h (by decide)), (fun h => absurd h (by decide)), (fun h => absurd h (by decide)), by simpa using HB.out.drew⟩
      · rintro L ac w' i o ⟨x17, x18, x19, x20, x21, x22, ha, p0, p1, p2, p3, p4, p5, q1, q2, q3, q5, q6, hS⟩ ho hi he
        simp only [turn, List.foldl_cons, List.foldl_nil, List.setIfInBounds_toArray, List.set_cons_succ, List.set_cons_zero] at ha ⊢
        subst ha
        rcases i with _|_|_|_|_|_|_|i
        all_goals cases ho
        all_goals simp [Region.binds] at he
        · have h1 : L 1 = false := by cases hh : L 1 with | false => rfl | true => (have hq := q1 hh; simp [hi] at hq)
          have h2 : L 2 = false := by cases hh : L 2 with | false => rfl | true => (have hq := q2 hh; simp [h1] at hq)
          have h3 : L 3 = false := by cases hh : L 3 with | false => rfl | true => (have hq := q3 hh; simp [h2] at hq)
          have h6 : L 6 = false := by cases hh : L 6 with | false => rfl | true => (have hq := q6 hh; simp [h3] at hq)
          refine wpOp_step rfl (fun K hK => ?_)
          go_simp
          exact hK _ _ ⟨_, _, _, _, _, _, rfl, (fun _ => rfl), (by simp [h1]), (by simp [h2]), (by simp [h3]), (by first | exact p4 | exact fun _ => rfl), (by first | exact p5 | exact fun _ => rfl), (by simp [h1]), (by simp [h2]), (by simp [h3]), (by simpa using q5), (by simp [h6]), (by simpa [h1, h2, h3, h6] using hS)⟩
        · have h2 : L 2 = false := by cases hh : L 2 with | false => rfl | true => (have hq := q2 hh; simp [hi] at hq)
          have h3 : L 3 = false := by cases hh : L 3 with | false => rfl | true => (have hq := q3 hh; simp [h2] at hq)
          have h6 : L 6 = false := by cases hh : L 6 with | false => rfl | true => (have hq := q6 hh; simp [h3] at hq)
          obtain rfl := p0 (by simp [he])
          refine wpOp_step rfl (fun K hK => ?_)
          go_simp
          exact hK _ _ ⟨_, _, _, _, _, _, rfl, (by first | exact p0 | exact fun _ => rfl), (fun _ => rfl), (by simp [h2]), (by simp [h3]), (by first | exact p4 | exact fun _ => rfl), (by first | exact p5 | exact fun _ => rfl), (by simp [he]), (by simp [h2]), (by simp [h3]), (by simpa using q5), (by simp [h6]), (by simpa [h2, h3, h6] using hS)⟩
        · have h3 : L 3 = false := by cases hh : L 3 with | false => rfl | true => (have hq := q3 hh; simp [hi] at hq)
          have h6 : L 6 = false := by cases hh : L 6 with | false => rfl | true => (have hq := q6 hh; simp [h3] at hq)
          obtain rfl := p1 (by simp [he])
          refine wpOp_step rfl (fun K hK => ?_)
          go_simp
          exact hK _ _ ⟨_, _, _, _, _, _, rfl, (by first | exact p0 | exact fun _ => rfl), (by first | exact p1 | exact fun _ => rfl), (fun _ => rfl), (by simp [h3]), (by first | exact p4 | exact fun _ => rfl), (by first | exact p5 | exact fun _ => rfl), (by simpa using q1), (by simp [he]), (by simp [h3]), (by simpa using q5), (by simp [h6]), (by simpa [h3, h6] using hS)⟩
        · have h6 : L 6 = false := by cases hh : L 6 with | false => rfl | true => (have hq := q6 hh; simp [hi] at hq)
          obtain rfl := p2 (by simp [he])
          have f0 : w'.cell? ⟨gd, 3, none⟩ = some (.map (some ga)) := by
            rw [if_neg (by simp [h6])] at hS
            exact hS.cell 0 rfl (k := 3) rfl
          refine wpOp_step rfl (fun K hK => ?_)
          go_simp
          exact hK _ _ ⟨_, _, _, _, _, _, rfl, (by first | exact p0 | exact fun _ => rfl), (by first | exact p1 | exact fun _ => rfl), (by first | exact p2 | exact fun _ => rfl), (fun _ => rfl), (by first | exact p4 | exact fun _ => rfl), (by first | exact p5 | exact fun _ => rfl), (by simpa using q1), (by simpa using q2), (by simp [he]), (by simpa using q5), (by simp [h6]), (by simpa [h6] using hS)⟩
        · have h5 : L 5 = false := by cases hh : L 5 with | false => rfl | true => (have hq := q5 hh; simp [hi] at hq)
          have h6 : L 6 = false := by cases hh : L 6 with | false => rfl | true => (have hq := q6 hh; simp [h5] at hq)
          refine wpOp_step rfl (fun K hK => ?_)
          go_simp
          exact hK _ _ ⟨_, _, _, _, _, _, rfl, (by first | exact p0 | exact fun _ => rfl), (by first | exact p1 | exact fun _ => rfl), (by first | exact p2 | exact fun _ => rfl), (by first | exact p3 | exact fun _ => rfl), (fun _ => rfl), (by simp [h5]), (by simpa using q1), (by simpa using q2), (by simpa using q3), (by simp [h5]), (by simp [h6]), (by simpa [h5, h6] using hS)⟩
        · have h6 : L 6 = false := by cases hh : L 6 with | false => rfl | true => (have hq := q6 hh; simp [hi] at hq)
          obtain rfl := p4 (by simp [he])
          have f0 : w'.cell? ⟨gx, 1, none⟩ = some (.int .i64 (n : Int)) := by
            rw [if_neg (by simp [h6])] at hS
            exact hS.cell 5 rfl (k := 1) rfl
          refine wpOp_step rfl (fun K hK => ?_)
          go_simp
          exact hK _ _ ⟨_, _, _, _, _, _, rfl, (by first | exact p0 | exact fun _ => rfl), (by first | exact p1 | exact fun _ => rfl), (by first | exact p2 | exact fun _ => rfl), (by first | exact p3 | exact fun _ => rfl), (by first | exact p4 | exact fun _ => rfl), (fun _ => rfl), (by simpa using q1), (by simpa using q2), (by simpa using q3), (by simp [he]), (by simp [h6]), (by simpa [h6] using hS)⟩
        · obtain rfl := p3 (by simp [he])
          obtain rfl := p5 (by simp [he])
          rw [if_neg (by simp [hi])] at hS
          obtain ⟨w5, hrun, _, hN⟩ := hS.drop 3 rfl kint HNW.out Tryz.underlying89
          refine wpOp_step rfl (fun K hK => ?_)
          go_simp
          exact hK _ _ ⟨_, _, _, _, _, _, rfl, (by first | exact p0 | exact fun _ => rfl), (by first | exact p1 | exact fun _ => rfl), (by first | exact p2 | exact fun _ => rfl), (by first | exact p3 | exact fun _ => rfl), (by first | exact p4 | exact fun _ => rfl), (by first | exact p5 | exact fun _ => rfl), (by simpa using q1), (by simpa using q2), (by simpa using q3), (by simpa using q5), (by simp [he]), (by rw [if_pos (by simp)]; exact hN)⟩
      · rintro L ac w' ⟨x17, x18, x19, x20, x21, x22, ha, p0, p1, p2, p3, p4, p5, q1, q2, q3, q5, q6, hS⟩ hall
        have t6 := hall 6 (by decide)
        rw [if_pos t6] at hS
        
        obtain rfl := p0 (hall 0 (by decide))
        obtain rfl := p1 (hall 1 (by decide))
        obtain rfl := p2 (hall 2 (by decide))
        obtain rfl := p3 (hall 3 (by decide))
        obtain rfl := p4 (hall 4 (by decide))
        obtain rfl := p5 (hall 5 (by decide))
        simp only [turn, List.foldl_cons, List.foldl_nil, List.setIfInBounds_toArray, List.set_cons_succ, List.set_cons_zero] at ha
        subst ha
        clear q1 q2 q3 q5 q6  t6
        have HS := Lib.hid hS
        clear hS HB
        have e0 := HS.out.cell 4 rfl (k := 0) rfl
        have e1 := HS.out.cell 4 rfl (k := 1) rfl
        have u0 := HS.out.froz 4 rfl (k := 0)
        have u1 := HS.out.froz 4 rfl (k := 1)
        have H9 := Lib.hid ((HS.out.set 4 rfl (k := 0) (.int .i64 0)).set 4 rfl (k := 1) (.int .i64 0))
        have f0 := H9.out.cell 4 rfl (k := 0) rfl
        have f1 := H9.out.cell 4 rfl (k := 1) rfl
        go_wp2
        refine bodyPost_ret (v := .agg #[.int .i64 0, .int .i64 0]) (by simp [results, Tryz.results22, asAddr, Result.andThen, go_sem, f0, f1]) rfl ?_
        exact HFIN.out _ _ H9.out (by rw [← HRR.out]; rfl)
end Ft
end Go.Proofs.YtjopiepfjbnkbaaGreatDoor
/-! Walk of ftl.Play. Conditions: none beyond each theorem's own premises. -/
namespace Go.Proofs.YtjopiepfjbnkbaaGreatDoor
open Go.RowKit
set_option linter.unusedVariables false
namespace Ft
open Nd (B Rt RtB)

structure A where
  (e d : Int)
def A.cells (a : A) : List Value := [.int .i64 a.e, .int .i64 a.d]
theorem A.len : ∀ x : A, x.cells.length = 2 := fun _ => rfl
theorem O.len : ∀ x : O, x.cells.length = 3 := fun _ => rfl
theorem A.one (l : List A) : ∀ u ∈ l.flatMap A.cells, u.oneCell' = true := by
  intro u hu
  rw [List.mem_flatMap] at hu
  obtain ⟨x, _, hu⟩ := hu
  simp only [A.cells, List.mem_cons, List.not_mem_nil, or_false] at hu
  rcases hu with rfl | rfl <;> rfl
inductive Plays : (Int → Option Int) → List O → List A → Prop
  | nil {has : Int → Option Int} : Plays has [] []
  | cons {has has' : Int → Option Int} {o : O} {os : List O} {e d : Int} {as_ : List A} (h : Way has o e d has') (r : Plays has' os as_) : Plays has (o :: os) (⟨e, d⟩ :: as_)
theorem plays_ex : ∀ (os : List O) (has : Int → Option Int), ∃ as_, Plays has os as_ ∧ as_.length = os.length
  | [], has => ⟨[], .nil, rfl⟩
  | o :: os, has => by
    obtain ⟨e, d, has', hw⟩ := way_ex has o
    obtain ⟨as_, h1, h2⟩ := plays_ex os has'
    exact ⟨⟨e, d⟩ :: as_, .cons hw h1, by simp [h2]⟩
theorem drop_at {α : Type} {l : List α} {k : Nat} {x : α} (h : l[k]? = some x) : l.drop k = x :: l.drop (k + 1) := by
  obtain ⟨h1, h2⟩ := List.getElem?_eq_some_iff.1 h
  rw [List.drop_eq_getElem_cons h1, h2]
theorem ans_info : (Tryz.prog.info? 41).map (fun i => (i.zero, i.size, i.bytes)) = some (some (.agg #[.int .i64 0, .int .i64 0]), 2, 16) := by kernel_rfl
theorem int_info : (Tryz.prog.info? 3).map (fun i => (i.zero, i.size, i.bytes)) = some (some (.int .i64 0), 1, 8) := by kernel_rfl
theorem good0 : Good Nd.new8 0 mno mno mno 0 := ⟨inv0, by omega, Nd.B.blank 0, rfl, rfl⟩
def PlayRet (w : World) (n : Nat) (as_ : List A) (en : Ending) (w' : World) : Prop :=
  ∃ A1 c1 A2 c2, en = .returned (.tuple #[.slice A1 n c1, .slice A2 8 c2, .int .i64 0]) ∧ Sep w w' [.row 41 2 (.slice A1 n c1) n (as_.flatMap A.cells)]

set_option maxRecDepth 100000 in
set_option maxHeartbeats 1600000 in
theorem play_big (Ad : Option Addr) (n c : Nat) (w : World) (hn : 400 < n) :
    Calls Tryz.prog 8 #[.slice Ad n c] w (fun en w' => en = .returned (.tuple #[.slice none 0 0, .slice none 0 0, .int .i64 2]) ∧ Below w.heap.size w w') := by
  have i1 : (400 : Int) < (n : Int) := by omega
  clear hn
  go_enter Tryz.func8, Tryz.ntmps8
  go_wp2
  refine bodyPost_ret (v := .tuple #[.slice none 0 0, .slice none 0 0, .int .i64 2]) (by simp [results, Tryz.results8]) rfl ?_
  exact ⟨rfl, Below.refl _ _⟩

set_option maxRecDepth 100000 in
set_option maxHeartbeats 6400000 in
theorem play_any (Ad : Option Addr) (n c : Nat) (ops : List O) (as_ : List A) (w : World) (hr : Rd w w.heap.size 3 Ad n (ops.flatMap O.cells)) (hl : ops.length = n) (hn : n ≤ 400) (hp : Plays mno ops as_)
    (hwf : ∀ o ∈ ops, (Lit.int .i64 o.n).wf = true) :
    Calls Tryz.prog 8 #[.slice Ad n c] w (PlayRet w n as_) := by
  obtain ⟨ti, hti, t0, t1, t2⟩ := info_parts ans_info
  obtain ⟨ii, hii, j0, j1, j2⟩ := info_parts int_info
  have hmm := @run_makeMap Tryz.prog
  have HR := Lib.hid hr
  have HL := Lib.hid hl
  have HW := Lib.hid hwf
  have HF : Hid (∃ es', Plays mno (ops.drop 0) es' ∧ as_ = [] ++ es') := Lib.hid ⟨as_, hp, rfl⟩
  have i4 : ¬ (400 : Int) < (n : Int) := by omega
  clear hr hl hp hwf
  go_enter Tryz.func8, Tryz.ntmps8
  go_wp2_with fail
  refine (Nd.new_any _).mono ?_; rintro en w1 ⟨A1, c1, hc1, rfl, K⟩
  have S1 : Hid (Sep w (((w1.alloc (.map #[] 0)).alloc (.map #[] 0)).alloc (.cells #[.slice A1 8 c1, .int .i64 0, .map (some w1.heap.size), .map (some (w1.heap.size + 1))] 91)) (dI (w1.heap.size + 2) (.slice A1 8 c1) 0 w1.heap.size (w1.heap.size + 1) :: flI A1 c1 Nd.new8 :: owI w1.heap.size 0 mno :: atI (w1.heap.size + 1) 0 mno :: [.row 41 2 (.slice none 0 0) 0 (([] : List A).flatMap A.cells)])) := Lib.hid (by
    have h1 := ((K.newMap Tryz.prog 136 smk ienc).newMap Tryz.prog 3 (Value.int .i64) smk)
    have h2 := (h1.new 91 [.slice A1 8 c1, .int .i64 0, .map (some w1.heap.size), .map (some (w1.heap.size + 1))]).nilRow 41 2 none
    have e1 : (w1.alloc (.map #[] 0)).heap.size = w1.heap.size + 1 := by simp
    have e2 : ((w1.alloc (.map #[] 0)).alloc (.map #[] 0)).heap.size = w1.heap.size + 2 := by simp
    rw [e1, e2] at h2
    exact h2.pick [3, 0, 1, 2, 4] (by decide) (by simp))
  have hS1 : Hid (Is w (w1.heap.size + 2) w1.heap.size (w1.heap.size + 1) mno 0 [.row 41 2 (.slice none 0 0) 0 (([] : List A).flatMap A.cells)] (((w1.alloc (.map #[] 0)).alloc (.map #[] 0)).alloc (.cells #[.slice A1 8 c1, .int .i64 0, .map (some w1.heap.size), .map (some (w1.heap.size + 1))] 91))) := Lib.hid ⟨_, _, _, _, St.mk S1.out hc1, good0⟩
  clear K S1
  go_wp2
  clear hmm
  generalize ((w1.alloc (.map #[] 0)).alloc (.map #[] 0)).alloc (.cells #[.slice A1 8 c1, .int .i64 0, .map (some w1.heap.size), .map (some (w1.heap.size + 1))] 91) = wo at hS1 ⊢
  obtain ⟨ga, HG2⟩ : ∃ g, Hid (g = w1.heap.size + 1) := ⟨_, Lib.hid rfl⟩
  obtain ⟨gd, HGS⟩ : ∃ g, Hid (g = w1.heap.size + 2) := ⟨_, Lib.hid rfl⟩
  rw [← HGS.out, ← HG2.out] at hS1
  rw [← HGS.out]
  obtain ⟨go, HG1⟩ : ∃ g, Hid (g = w1.heap.size) := ⟨_, Lib.hid rfl⟩
  rw [← HG1.out] at hS1
  clear HGS HG2 HG1
  go_loopg [6, 22] n (fun q v6 i wr => ∃ (k : Nat) (A5 : Option Addr) (c5 : Nat) (has : Int → Option Int) (es : List A), k ≤ n ∧ q = n - k ∧ i = .int .i64 (k : Int) ∧ v6 = .slice A5 k c5 ∧ Hid (es.length = k) ∧
    Hid (∃ es', Plays has (ops.drop k) es' ∧ as_ = es ++ es') ∧ Is w gd go ga has (5 * k) [.row 41 2 (.slice A5 k c5) k (es.flatMap A.cells)] wr)
  case atStart => exact ⟨0, none, 0, mno, [], Nat.zero_le _, rfl, rfl, rfl, Lib.hid rfl, HF, hS1.out⟩
  case round =>
    clear HF hS1 wo
    obtain ⟨k, A5, c5, has, es, hk, rfl, rfl, rfl, HEL, HF, hs⟩ := hrel
    have HS := Lib.hid hs
    clear hs
    by_cases hlt : k < n
    · obtain ⟨b, off, rfl, hb, hc⟩ := HR.out.at_ O.len (by omega)
      obtain ⟨o, ho⟩ : ∃ o, ops[k]? = some o := ⟨_, List.getElem?_eq_getElem (by rw [HL.out]; exact hlt)⟩
      have hbel : Below w.heap.size w wr := by obtain ⟨_, _, _, _, ⟨_, _, _, _, _, H⟩, _⟩ := HS.out; exact H.below
      have q0 : wr.cell? ⟨b, off + k * 3, none⟩ = some (.int .i64 o.kind) := (hbel.cell hb).trans (hc k 0 o _ ho rfl)
      have q1 : wr.cell? ⟨b, off + k * 3 + 1, none⟩ = some (.int .i64 o.n) := (hbel.cell hb).trans (hc k 1 o _ ho rfl)
      have q2 : wr.cell? ⟨b, off + k * 3 + 2, none⟩ = some (.int .i64 o.data) := (hbel.cell hb).trans (hc k 2 o _ ho rfl)
      have i0 : (0 : Int) ≤ (k : Int) := by omega
      have i1 : (k : Int) < (n : Int) := by omega
      have HWF : Hid ((Lit.int .i64 o.n).wf = true) := Lib.hid (HW.out o (List.mem_of_getElem? ho))
      obtain ⟨e, d, has', es1, HWAY, HP2, HAS⟩ : ∃ e d has' es1, Hid (Way has o e d has') ∧ Hid (Plays has' (ops.drop (k + 1)) es1) ∧ Hid (as_ = (es ++ [(⟨e, d⟩ : A)]) ++ es1) := by
        obtain ⟨es', h1, h2⟩ := HF.out
        rw [drop_at ho] at h1
        cases h1 with
        | cons hw hp => exact ⟨_, _, _, _, Lib.hid hw, Lib.hid hp, Lib.hid (by rw [h2]; simp)⟩
      have HEL2 : Hid ((es ++ [(⟨e, d⟩ : A)]).length = k + 1) := Lib.hid (by rw [List.length_append, HEL.out]; rfl)
      have HBK : Hid (5 * k + 5 < 1048576) := Lib.hid (by omega)
      clear hc ho HF hbel
      go_upto_region 8 with (fail)
      have HS2 : Hid (Is w gd go ga has (5 * k) (.cells wr.heap.size 36 o.cells :: [.row 41 2 (.slice A5 k c5) k (es.flatMap A.cells)]) (wr.alloc (.cells #[.int .i64 o.kind, .int .i64 o.n, .int .i64 o.data] 36))) := Lib.hid (by
          obtain ⟨fl, hd, ow, at_, h1, h2⟩ := HS.out
          exact ⟨fl, hd, ow, at_, h1.boxed 36 o.cells, h2⟩)
      clear HS q0 q1 q2
      generalize wr.alloc (.cells #[.int .i64 o.kind, .int .i64 o.n, .int .i64 o.data] 36) = wx at HS2 ⊢
      generalize wr.heap.size = gx at HS2 ⊢
      obtain ⟨p0, p1, p2⟩ : wx.cell? ⟨gx, 0, none⟩ = some (.int .i64 o.kind) ∧ wx.cell? ⟨gx, 1, none⟩ = some (.int .i64 o.n) ∧ wx.cell? ⟨gx, 2, none⟩ = some (.int .i64 o.data) := by
        obtain ⟨_, _, _, _, ⟨_, _, _, _, _, H⟩, _⟩ := HS2.out
        exact ⟨H.cell 4 rfl (k := 0) rfl, H.cell 4 rfl (k := 1) rfl, H.cell 4 rfl (k := 2) rfl⟩
      go_wp2_with fail
      refine (step_any gd go ga (5 * k) o e d has has' _ w _ HS2.out HWAY.out HWF.out HBK.out).mono ?_
      rintro en w5 ⟨rfl, fl5, hd5, ow5, at5, ⟨gf5, c5', no5, na5, hc5, H5⟩, hg5⟩
      have HH := Lib.hid H5
      have HC5 := Lib.hid hc5
      have HG5 := Lib.hid hg5
      have hnew := Lib.hid (Rd.of_own (own_new w5 41 #[.int .i64 e, .int .i64 d] 2 1 rfl (by simp [maxLen]) (Nat.le_refl _)))
      clear H5 hc5 hg5 p0 p1 p2 HS2
      go_wp2_with (at_builtin; refine wpList_append_sep (HH.out.alloc _) 5 rfl (.tmp 26) (.tmp 30) 37 rfl 41 ti (.agg #[.int .i64 0, .int .i64 0]) 2 16 Tryz.underlying37 hti t0 t1 t2 rfl (by omega) _ k _ rfl rfl _ _ 1 1 _ rfl hnew.out (by simp [Value.oneCell']) (by simp only [maxLen]; omega) (by omega) ?_; intro A6 c6 w6 hc6 hs6 H6'; have H6 := Lib.hid H6'; clear H6')
      go_roundg (n - (k + 1))
      case measure => omega
      case rel =>
        refine ⟨k + 1, A6, c6, has', es ++ [⟨e, d⟩], by omega, rfl, by go_num, rfl, HEL2, Lib.hid ⟨es1, HP2.out, HAS.out⟩, fl5, hd5, ow5, at5, ⟨gf5, c5', no5, na5, HC5.out, ?_⟩, HG5.out⟩
        rw [List.flatMap_append]
        exact H6.out.sub (.cons_cons _ (.cons_cons _ (.cons_cons _ (.cons_cons _ (.cons _ (.refl _))))))
    · obtain rfl : k = n := by omega
      obtain ⟨es', h1, h2⟩ := HF.out
      rw [List.drop_of_length_le (by rw [HL.out]; omega)] at h1
      cases h1
      rw [List.append_nil] at h2
      subst h2
      obtain ⟨fl5, hd5, ow5, at5, ⟨gf, cf, no5, na5, hc5, H5⟩, hg5⟩ := HS.out
      have HFL := Lib.hid hg5.inv.rt.1
      have c0 := H5.cell 0 rfl (k := 0) rfl
      have HH := Lib.hid ((H5.pick [1, 4] (by decide) (by simp)).nilRow 3 1 none)
      clear H5 hc5 hg5 HS HF
      go_wp2
      clear c0
      go_loopg [9, 38] 8 (fun q v9 i wr => ∃ (j : Nat) (A7 : Option Addr) (c7 : Nat) (xs : List Value), j ≤ 8 ∧ q = 8 - j ∧ i = .int .i64 (j : Int) ∧ v9 = .slice A7 j c7 ∧ Sep w wr [flI (some ⟨gf, 0, none⟩) cf fl5, .row 41 2 (.slice A5 k c5) k (as_.flatMap A.cells), .row 3 1 (.slice A7 j c7) j xs])
      case atStart => exact ⟨0, none, 0, [], Nat.zero_le _, rfl, rfl, rfl, HH.out⟩
      case round =>
        clear HH
        obtain ⟨j, A7, c7, xs, hj, rfl, rfl, rfl, hs⟩ := hrel
        have HS := Lib.hid hs
        clear hs
        by_cases hlt : j < 8
        · obtain ⟨x, hx⟩ : ∃ x, fl5[j]? = some x := ⟨_, List.getElem?_eq_getElem (by rw [HFL.out]; exact hlt)⟩
          have hcell : ∀ (i : Nat) (u : Value), i < 6 → x.cells[i]? = some u → wr.cell? ⟨gf, j * 6 + i, none⟩ = some u := fun i u hi hu => by
            obtain ⟨g, e, _, h⟩ := HS.out.rowAt 0 rfl (by omega)
            cases e
            exact (h _).1 _ ((flat_get Nd.B.len fl5 j i x hx hi).trans hu)
          have q0 : wr.cell? ⟨gf, j * 6, none⟩ = some (.int .i64 x.a) := hcell 0 _ (by omega) rfl
          have q1 : wr.cell? ⟨gf, j * 6 + 1, none⟩ = some (.int .i64 x.b) := hcell 1 _ (by omega) rfl
          have q2 : wr.cell? ⟨gf, j * 6 + 2, none⟩ = some (.int .i64 x.c) := hcell 2 _ (by omega) rfl
          have q3 : wr.cell? ⟨gf, j * 6 + 3, none⟩ = some (.int .i64 x.d) := hcell 3 _ (by omega) rfl
          have q4 : wr.cell? ⟨gf, j * 6 + 4, none⟩ = some (.int .i64 x.done) := hcell 4 _ (by omega) rfl
          have q5 : wr.cell? ⟨gf, j * 6 + 5, none⟩ = some (.int .i64 x.wear) := hcell 5 _ (by omega) rfl
          have i0 : (0 : Int) ≤ (j : Int) := by omega
          have i1 : (j : Int) < 8 := by omega
          clear hcell hx
          go_upto_region 14 with (fail)
          have HS2 : Hid (Sep w (wr.alloc (.cells #[.int .i64 x.a, .int .i64 x.b, .int .i64 x.c, .int .i64 x.d, .int .i64 x.done, .int .i64 x.wear] 95)) [flI (some ⟨gf, 0, none⟩) cf fl5, .row 41 2 (.slice A5 k c5) k (as_.flatMap A.cells), .row 3 1 (.slice A7 j c7) j xs, .cells wr.heap.size 95 x.cells]) := Lib.hid (HS.out.new 95 x.cells)
          clear q0 q1 q2 q3 q4 q5 HS
          generalize wr.alloc (.cells #[.int .i64 x.a, .int .i64 x.b, .int .i64 x.c, .int .i64 x.d, .int .i64 x.done, .int .i64 x.wear] 95) = wx at HS2 ⊢
          generalize wr.heap.size = gx at HS2 ⊢
          have q5 := HS2.out.cell 3 rfl (k := 5) rfl
          have hnew := Lib.hid (Rd.of_own (own_new wx 3 #[.int .i64 x.wear] 1 1 rfl (by simp [maxLen]) (Nat.le_refl _)))
          go_wp2_with (at_builtin; refine wpList_append_sep (HS2.out.alloc _) 2 rfl (.tmp 42) (.tmp 45) 24 rfl 3 ii (.int .i64 0) 1 8 Tryz.underlying24 hii j0 j1 j2 rfl (by omega) _ j _ rfl rfl _ _ 1 1 _ rfl hnew.out (by simp [Value.oneCell']) (by simp only [maxLen]; omega) (by omega) ?_; intro A6 c6 w6 hc6 hs6 H6'; have H6 := Lib.hid H6'; clear H6')
          go_roundg (8 - (j + 1))
          case measure => omega
          case rel => exact ⟨j + 1, A6, c6, _, by omega, rfl, by go_num, rfl, H6.out.pick [0, 1, 2] (by decide) (by simp)⟩
        · obtain rfl : j = 8 := by omega
          go_wp2
          refine bodyPost_ret (v := .tuple #[.slice A5 k c5, .slice A7 8 c7, .int .i64 0]) (by simp [results, Tryz.results8]) rfl ?_
          exact ⟨A5, c5, A7, c7, rfl, HS.out.pick [1] (by decide) (by simp)⟩
end Ft
end Go.Proofs.YtjopiepfjbnkbaaGreatDoor
