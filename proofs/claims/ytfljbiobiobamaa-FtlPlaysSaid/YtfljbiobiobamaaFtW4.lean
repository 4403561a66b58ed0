/-
  Walk of ftl's advance. Conditions: none beyond the theorem's own premises.
-/
import Derived.Test.YtfljbiobiobamaaFtW3
import Derived.Test.YtfljbiobiobamaaFtA
namespace Go.Proofs.Ytfljbiobiobamaa
open Go.RowKit
set_option linter.unusedVariables false
namespace Ft
open Nd (B Rt RtB)

/-- behind an advance -/
def AdvRet (w0 : World) (gd go ga h1 nx W : Nat) (has : Int → Option Int) (at_ : Int → Option S) (R0 : List It) (en : Ending) (w' : World) : Prop :=
  en = .returned (.tuple #[]) ∧ ∃ fl' ow' at', St w0 w' gd go ga fl' h1 ow' at' R0 ∧ Went at_ has (W + 1) h1 nx fl' ow' at'

/-- where the loop over the pages stands -/
def AtQ (w0 : World) (gd go ga h1 nx W q : Nat) (has : Int → Option Int) (at_ : Int → Option S) (R : List It) (wr : World) : Prop :=
  ∃ fl1 ow1 at1 j, St w0 wr gd go ga fl1 h1 ow1 at1 R ∧ Adv at_ has W h1 nx q fl1 ow1 at1 j

set_option maxRecDepth 100000 in
set_option maxHeartbeats 12800000 in
theorem advance_any (gd go ga hd h1 nx W : Nat) (fl : List B) (x y : B) (ow : S → Option Int) (at_ : Int → Option S) (has : Int → Option Int) (R : List It) (w0 w : World) (hs : St w0 w gd go ga fl hd ow at_ R) (I : Inv fl ow at_ has W) (hh : hd < 8) (hh1 : h1 = (hd + 1) % 8) (hnx : nx = (h1 + 1) % 8) (hW : W < 1048576) (hx : fl[h1]? = some x) (hx0 : x.done = 0) (hy : fl[nx]? = some y) :
    Calls Try.prog 55 #[.pointer (some ⟨gd, 0, none⟩)] w (AdvRet w0 gd go ga h1 nx W has at_ R) := by
  obtain ⟨gf, c, no, na, hc, H0⟩ := hs
  have c1 := H0.cell 0 rfl (k := 1) rfl
  have u1 := H0.froz 0 rfl (k := 1)
  have HS := Lib.hid (H0.set 0 rfl (k := 1) (.int .i64 (h1 : Int)))
  have HC := Lib.hid hc
  have t1 : ((hd : Int) + 1).tmod 8 = (h1 : Int) := by rw [Int.tmod_eq_emod_of_nonneg (by omega)]; omega
  have t2 : ((h1 : Int) + 1).tmod 8 = (nx : Int) := by rw [Int.tmod_eq_emod_of_nonneg (by omega)]; omega
  have HNE : Hid (h1 ≠ nx) := Lib.hid (by omega)
  have n8 : (nx : Int) < 8 := by omega
  have n0 : (0 : Int) ≤ (nx : Int) := by omega
  have HN8 : Hid (nx < 8) := Lib.hid (by omega)
  have m8 : (hd : Int) < 8 := by omega
  have m0 : (0 : Int) ≤ (hd : Int) := by omega
  have k8 : (h1 : Int) < 8 := by omega
  have k0 : (0 : Int) ≤ (h1 : Int) := by omega
  have HI := Lib.hid I
  have HX := Lib.hid hx
  have HX0 := Lib.hid hx0
  have HY := Lib.hid hy
  have HW := Lib.hid hW
  clear H0 hc I hx hx0 hy hW hh1 hnx
  go_enter Try.func55, Try.ntmps55
  go_upto_region 1 with (fail)
  generalize w.setCell ⟨gd, 1, none⟩ (.int .i64 (h1 : Int)) = w1 at HS ⊢
  have HS1 : Hid (Sep w0 w1 (dI gd (.slice (some ⟨gf, 0, none⟩) 8 c) h1 go ga :: flI (some ⟨gf, 0, none⟩) c fl :: owI go no ow :: atI ga na at_ :: R)) := Lib.hid HS.out
  clear c1 u1 HS t1 m8 m0
  have c1 := HS1.out.cell 0 rfl (k := 1) rfl
  have c0 := HS1.out.cell 0 rfl (k := 0) rfl
  have cy := fl_done HS1.out HY.out
  by_cases hy0 : y.done = 0
  · rw [hy0] at cy
    have HY0 := Lib.hid hy0
    clear hy0
    go_wp2
    refine bodyPost_end (v := .tuple #[]) (by simp [results, Try.results55]) rfl ?_
    exact ⟨rfl, fl, ow, at_, ⟨gf, c, no, na, HC.out, HS1.out⟩, Went.early HI.out HX.out HX0.out HY.out HY0.out⟩
  · have HA0 : Hid (AtQ w0 gd go ga h1 nx W 0 has at_ R w1) := Lib.hid ⟨fl, ow, at_, 0, ⟨gf, c, no, na, HC.out, HS1.out⟩, Adv.start HI.out HX.out HX0.out⟩
    have hz0 : (y.done == 0) = false := by simpa using hy0
    go_wp2
    clear HS1 c1 c0 cy
    generalize (y.done == 0) = yb at hz0 ⊢
    subst hz0
    clear hy0
    go_loopg [31] 4 (fun g i wr => ∃ q : Nat, q ≤ 4 ∧ g = 4 - q ∧ i = .int .i64 (q : Int) ∧ AtQ w0 gd go ga h1 nx W q has at_ R wr)
    case atStart => exact ⟨0, by omega, rfl, rfl, HA0.out⟩
    case round =>
      clear HA0 w1
      obtain ⟨q, hq, rfl, rfl, fl2, ow2, at2, j2, hst, hadv⟩ := hrel
      by_cases hlt : q < 4
      · have HADV := Lib.hid hadv
        have hst' := hst.boxed 119 [.int .i64 (nx : Int), .int .i64 (q : Int)]
        have HST : Hid (St w0 (wr.alloc (.cells #[.int .i64 (nx : Int), .int .i64 (q : Int)] 119)) gd go ga fl2 h1 ow2 at2 (.cells wr.heap.size 119 [.int .i64 (nx : Int), .int .i64 (q : Int)] :: R)) := Lib.hid hst'
        clear hst hst' hadv
        have q4 : (q : Int) < 4 := by omega
        have q0 : (0 : Int) ≤ (q : Int) := by omega
        go_upto_region 7 with (fail)
        generalize wr.alloc (.cells #[.int .i64 (nx : Int), .int .i64 (q : Int)] 119) = wb at HST ⊢
        generalize wr.heap.size = gs at HST ⊢
        have HSO : Hid (SOk ⟨nx, q⟩) := Lib.hid ⟨HN8.out, hlt⟩
        obtain ⟨d0, d1⟩ : wb.cell? ⟨gs, 0, none⟩ = some (.int .i64 (nx : Int)) ∧ wb.cell? ⟨gs, 1, none⟩ = some (.int .i64 (q : Int)) := by
          obtain ⟨gf, c, no, na, hc, H⟩ := HST.out
          exact ⟨H.cell 4 rfl (k := 0) rfl, H.cell 4 rfl (k := 1) rfl⟩
        go_wp2_with fail
        refine (live_any gd go ga h1 W fl2 ow2 at2 has _ ⟨nx, q⟩ w0 _ HST.out HADV.out.inv HSO.out).mono ?_
        rintro en w3 ⟨m, b, rfl, hbt, hbf, hst3⟩
        have HST3 := Lib.hid hst3
        clear hst3 HST d0 d1
        cases b with
        | true =>
          obtain ⟨hm, hm0, hm16⟩ := hbt rfl
          clear hbf hbt
          obtain ⟨n, rfl⟩ := Int.eq_ofNat_of_zero_le hm0
          obtain ⟨x1, hx1, hx1d⟩ := HADV.out.ex
          obtain ⟨_, _, _, y1, hy1, _, hyd, hyh⟩ := HADV.out.inv.spot _ _ hm
          simp only at hy1 hyd hyh
          have hmv := HADV.out.move HNE.out hlt hm hx1 hx1d hy1
          have HMV := Lib.hid hmv
          have HY1 := Lib.hid hy1
          have HYD := Lib.hid hyd
          have HX1 := Lib.hid hx1
          have HX1D := Lib.hid hx1d
          have HN := Lib.hid hm16
          have hj := HADV.out.jq
          have HJ : Hid (j2 < 4) := Lib.hid (by omega)
          clear hmv hm hm0 hm16 hx1 hx1d hy1 hyd hyh hj
          obtain ⟨d0, d1⟩ : w3.cell? ⟨gs, 0, none⟩ = some (.int .i64 (nx : Int)) ∧ w3.cell? ⟨gs, 1, none⟩ = some (.int .i64 (q : Int)) := by
            obtain ⟨gf, c, no, na, hc, H⟩ := HST3.out
            exact ⟨H.cell 4 rfl (k := 0) rfl, H.cell 4 rfl (k := 1) rfl⟩
          go_wp2_with fail
          refine (read_any gd go ga h1 W fl2 y1 ow2 at2 has _ ⟨nx, q⟩ w0 _ HST3.out HADV.out.inv HY1.out hlt HYD.out).mono ?_
          rintro en w4 ⟨rfl, hst4⟩
          have HST4 := Lib.hid hst4
          clear hst4 HST3 d0 d1
          go_wp2_with fail
          refine (program_any gd go ga h1 n j2 W (y1.at q) x1 fl2 ow2 at2 has _ w0 _ HST4.out HADV.out.inv (by omega) HX1.out HJ.out HX1D.out (by have := HN.out; omega)).mono ?_
          rintro en w5 ⟨rfl, hst5⟩
          have HFIN : Hid (∀ W', St w0 W' gd go ga (fl2.set h1 (x1.put (y1.at q) j2)) h1 (mdel (mup ow2 ⟨h1, j2⟩ (n : Int)) ⟨nx, q⟩) (mup at2 (n : Int) ⟨h1, j2⟩) R → AtQ w0 gd go ga h1 nx W (q + 1) has at_ R W') := Lib.hid (fun W' h => ⟨_, _, _, _, h, HMV.out⟩)
          obtain ⟨gf, c, no, na, hc, H5⟩ := hst5
          have HB := Lib.hid H5
          have HCC := Lib.hid hc
          clear H5 hc HST4 HMV HY1 HYD HX1 HX1D HN HJ HADV
          generalize fl2.set h1 (x1.put (y1.at q) j2) = fl1 at HB HFIN
          generalize mup ow2 ⟨h1, j2⟩ (n : Int) = ow1 at HB HFIN
          generalize mup at2 (n : Int) ⟨h1, j2⟩ = at1 at HB HFIN
          go_upto_region 10 with (fail)
          refine wp_region_inv0 (fun ac0 L ac w' => ∃ x50 x51 x52 x53 x54, ac = turn ac0 [(50, x50), (51, x51), (52, x52), (53, x53), (54, x54)] ∧ (L 0 = true → x50 = .pointer (some ⟨gd, 0, none⟩)) ∧ (L 1 = true → x51 = .pointer (some ⟨gd, 0, none⟩)) ∧ (L 2 = true → x52 = .pointer (some ⟨gd, 2, none⟩)) ∧ (L 3 = true → x53 = .map (some go)) ∧ (L 4 = true → x54 = .agg #[.int .i64 (nx : Int), .int .i64 (q : Int)]) ∧ (L 1 = true → L 0 = true) ∧ (L 2 = true → L 1 = true) ∧ (L 3 = true → L 2 = true) ∧ (L 5 = true → L 3 = true ∧ L 4 = true) ∧ (if L 5 = true then (Sep w0 w' (dI gd (.slice (some ⟨gf, 0, none⟩) 8 c) h1 go ga :: flI (some ⟨gf, 0, none⟩) c fl1 :: owI go (if (ow1 ⟨nx, q⟩).isSome then no - 1 else no) (mdel ow1 ⟨nx, q⟩) :: atI ga na at1 :: .cells gs 119 [.int .i64 (nx : Int), .int .i64 (q : Int)] :: R)) else Sep w0 w' (dI gd (.slice (some ⟨gf, 0, none⟩) 8 c) h1 go ga :: flI (some ⟨gf, 0, none⟩) c fl1 :: owI go no ow1 :: atI ga na at1 :: .cells gs 119 [.int .i64 (nx : Int), .int .i64 (q : Int)] :: R))) rfl (by kernel_rfl) ?_ ?_ ?_
          · simp only [turn, List.foldl_cons, List.foldl_nil, List.setIfInBounds_toArray, List.set_cons_succ, List.set_cons_zero]
            exact ⟨_, _, _, _, _, rfl, (fun h => absurd h (by decide)), (fun h => absurd h (by decide)), (fun h => absurd h (by decide)), (fun h => absurd h (by decide)), (fun h => absurd h (by decide)), (fun h => absurd h (by decide)), (fun h => absurd h (by decide)), (fun h => absurd h (by decide)), (fun h => absurd h (by decide)), by simpa using HB.out.drew⟩
          · rintro L ac w' i o ⟨x50, x51, x52, x53, x54, ha, p0, p1, p2, p3, p4, q1, q2, q3, q5, hS⟩ ho hi he
            simp only [turn, List.foldl_cons, List.foldl_nil, List.setIfInBounds_toArray, List.set_cons_succ, List.set_cons_zero] at ha ⊢
            subst ha
            rcases i with _|_|_|_|_|_|i
            all_goals cases ho
            all_goals simp [Region.binds] at he
            · have h1 : L 1 = false := by cases hh : L 1 with | false => rfl | true => (have hq := q1 hh; simp [hi] at hq)
              have h2 : L 2 = false := by cases hh : L 2 with | false => rfl | true => (have hq := q2 hh; simp [h1] at hq)
              have h3 : L 3 = false := by cases hh : L 3 with | false => rfl | true => (have hq := q3 hh; simp [h2] at hq)
              have h5 : L 5 = false := by cases hh : L 5 with | false => rfl | true => (have hq := q5 hh; simp [h3] at hq)
              refine wpOp_step rfl (fun K hK => ?_)
              go_simp
              exact hK _ _ ⟨_, _, _, _, _, rfl, (fun _ => rfl), (by simp [h1]), (by simp [h2]), (by simp [h3]), (by first | exact p4 | exact fun _ => rfl), (by simp [h1]), (by simp [h2]), (by simp [h3]), (by simp [h5]), (by simpa [h1, h2, h3, h5] using hS)⟩
            · have h2 : L 2 = false := by cases hh : L 2 with | false => rfl | true => (have hq := q2 hh; simp [hi] at hq)
              have h3 : L 3 = false := by cases hh : L 3 with | false => rfl | true => (have hq := q3 hh; simp [h2] at hq)
              have h5 : L 5 = false := by cases hh : L 5 with | false => rfl | true => (have hq := q5 hh; simp [h3] at hq)
              obtain rfl := p0 (by simp [he])
              refine wpOp_step rfl (fun K hK => ?_)
              go_simp
              exact hK _ _ ⟨_, _, _, _, _, rfl, (by first | exact p0 | exact fun _ => rfl), (fun _ => rfl), (by simp [h2]), (by simp [h3]), (by first | exact p4 | exact fun _ => rfl), (by simp [he]), (by simp [h2]), (by simp [h3]), (by simp [h5]), (by simpa [h2, h3, h5] using hS)⟩
            · have h3 : L 3 = false := by cases hh : L 3 with | false => rfl | true => (have hq := q3 hh; simp [hi] at hq)
              have h5 : L 5 = false := by cases hh : L 5 with | false => rfl | true => (have hq := q5 hh; simp [h3] at hq)
              obtain rfl := p1 (by simp [he])
              refine wpOp_step rfl (fun K hK => ?_)
              go_simp
              exact hK _ _ ⟨_, _, _, _, _, rfl, (by first | exact p0 | exact fun _ => rfl), (by first | exact p1 | exact fun _ => rfl), (fun _ => rfl), (by simp [h3]), (by first | exact p4 | exact fun _ => rfl), (by simpa using q1), (by simp [he]), (by simp [h3]), (by simp [h5]), (by simpa [h3, h5] using hS)⟩
            · have h5 : L 5 = false := by cases hh : L 5 with | false => rfl | true => (have hq := q5 hh; simp [hi] at hq)
              obtain rfl := p2 (by simp [he])
              have f0 : w'.cell? ⟨gd, 2, none⟩ = some (.map (some go)) := by
                rw [if_neg (by simp [h5])] at hS
                exact hS.cell 0 rfl (k := 2) rfl
              refine wpOp_step rfl (fun K hK => ?_)
              go_simp
              exact hK _ _ ⟨_, _, _, _, _, rfl, (by first | exact p0 | exact fun _ => rfl), (by first | exact p1 | exact fun _ => rfl), (by first | exact p2 | exact fun _ => rfl), (fun _ => rfl), (by first | exact p4 | exact fun _ => rfl), (by simpa using q1), (by simpa using q2), (by simp [he]), (by simp [h5]), (by simpa [h5] using hS)⟩
            · have h5 : L 5 = false := by cases hh : L 5 with | false => rfl | true => (have hq := q5 hh; simp [hi] at hq)
              have f0 : w'.cell? ⟨gs, 0, none⟩ = some (.int .i64 (nx : Int)) := by
                rw [if_neg (by simp [h5])] at hS
                exact hS.cell 4 rfl (k := 0) rfl
              have f1 : w'.cell? ⟨gs, 1, none⟩ = some (.int .i64 (q : Int)) := by
                rw [if_neg (by simp [h5])] at hS
                exact hS.cell 4 rfl (k := 1) rfl
              refine wpOp_step rfl (fun K hK => ?_)
              go_simp
              exact hK _ _ ⟨_, _, _, _, _, rfl, (by first | exact p0 | exact fun _ => rfl), (by first | exact p1 | exact fun _ => rfl), (by first | exact p2 | exact fun _ => rfl), (by first | exact p3 | exact fun _ => rfl), (fun _ => rfl), (by simpa using q1), (by simpa using q2), (by simpa using q3), (by simp [h5]), (by simpa [h5] using hS)⟩
            · obtain rfl := p3 (by simp [he])
              obtain rfl := p4 (by simp [he])
              rw [if_neg (by simp [hi])] at hS
              obtain ⟨w5, hrun, _, hN⟩ := hS.drop 2 rfl kspot HSO.out Try.underlying88
              simp only [smk] at hrun
              refine wpOp_step rfl (fun K hK => ?_)
              go_simp
              exact hK _ _ ⟨_, _, _, _, _, rfl, (by first | exact p0 | exact fun _ => rfl), (by first | exact p1 | exact fun _ => rfl), (by first | exact p2 | exact fun _ => rfl), (by first | exact p3 | exact fun _ => rfl), (by first | exact p4 | exact fun _ => rfl), (by simpa using q1), (by simpa using q2), (by simpa using q3), (by simp [he]), (by rw [if_pos (by simp)]; exact hN)⟩
          · rintro L ac w' ⟨x50, x51, x52, x53, x54, ha, p0, p1, p2, p3, p4, q1, q2, q3, q5, hS⟩ hall
            have t5 := hall 5 (by decide)
            rw [if_pos t5] at hS
            
            obtain rfl := p0 (hall 0 (by decide))
            obtain rfl := p1 (hall 1 (by decide))
            obtain rfl := p2 (hall 2 (by decide))
            obtain rfl := p3 (hall 3 (by decide))
            obtain rfl := p4 (hall 4 (by decide))
            simp only [turn, List.foldl_cons, List.foldl_nil, List.setIfInBounds_toArray, List.set_cons_succ, List.set_cons_zero] at ha
            subst ha
            clear q1 q2 q3 q5  t5
            have H9 := Lib.hid hS
            clear hS
            go_wp2
            go_roundg (4 - (q + 1))
            case measure => omega
            case rel => exact ⟨q + 1, by omega, rfl, by go_num, HFIN.out _ ⟨_, _, _, _, HCC.out, H9.out.sub (.cons_cons _ (.cons_cons _ (.cons_cons _ (.cons_cons _ (.cons _ (.refl _))))))⟩⟩
        | false =>
          have hno := HADV.out.no (hbf rfl)
          have HFIN : Hid (∀ W', St w0 W' gd go ga fl2 h1 (mdel ow2 ⟨nx, q⟩) at2 R → AtQ w0 gd go ga h1 nx W (q + 1) has at_ R W') := Lib.hid (fun W' h => ⟨_, _, _, _, h, hno⟩)
          clear hno hbt hbf
          obtain ⟨gf, c, no, na, hc, H5⟩ := HST3.out
          have HB := Lib.hid H5
          have HCC := Lib.hid hc
          clear H5 hc HADV HST3
          generalize fl2 = fl1 at HB HFIN
          generalize ow2 = ow1 at HB HFIN
          generalize at2 = at1 at HB HFIN
          go_upto_region 10 with (fail)
          refine wp_region_inv0 (fun ac0 L ac w' => ∃ x50 x51 x52 x53 x54, ac = turn ac0 [(50, x50), (51, x51), (52, x52), (53, x53), (54, x54)] ∧ (L 0 = true → x50 = .pointer (some ⟨gd, 0, none⟩)) ∧ (L 1 = true → x51 = .pointer (some ⟨gd, 0, none⟩)) ∧ (L 2 = true → x52 = .pointer (some ⟨gd, 2, none⟩)) ∧ (L 3 = true → x53 = .map (some go)) ∧ (L 4 = true → x54 = .agg #[.int .i64 (nx : Int), .int .i64 (q : Int)]) ∧ (L 1 = true → L 0 = true) ∧ (L 2 = true → L 1 = true) ∧ (L 3 = true → L 2 = true) ∧ (L 5 = true → L 3 = true ∧ L 4 = true) ∧ (if L 5 = true then (Sep w0 w' (dI gd (.slice (some ⟨gf, 0, none⟩) 8 c) h1 go ga :: flI (some ⟨gf, 0, none⟩) c fl1 :: owI go (if (ow1 ⟨nx, q⟩).isSome then no - 1 else no) (mdel ow1 ⟨nx, q⟩) :: atI ga na at1 :: .cells gs 119 [.int .i64 (nx : Int), .int .i64 (q : Int)] :: R)) else Sep w0 w' (dI gd (.slice (some ⟨gf, 0, none⟩) 8 c) h1 go ga :: flI (some ⟨gf, 0, none⟩) c fl1 :: owI go no ow1 :: atI ga na at1 :: .cells gs 119 [.int .i64 (nx : Int), .int .i64 (q : Int)] :: R))) rfl (by kernel_rfl) ?_ ?_ ?_
          · simp only [turn, List.foldl_cons, List.foldl_nil, List.setIfInBounds_toArray, List.set_cons_succ, List.set_cons_zero]
            exact ⟨_, _, _, _, _, rfl, (fun h => absurd h (by decide)), (fun h => absurd h (by decide)), (fun h => absurd h (by decide)), (fun h => absurd h (by decide)), (fun h => absurd h (by decide)), (fun h => absurd h (by decide)), (fun h => absurd h (by decide)), (fun h => absurd h (by decide)), (fun h => absurd h (by decide)), by simpa using HB.out.drew⟩
          · rintro L ac w' i o ⟨x50, x51, x52, x53, x54, ha, p0, p1, p2, p3, p4, q1, q2, q3, q5, hS⟩ ho hi he
            simp only [turn, List.foldl_cons, List.foldl_nil, List.setIfInBounds_toArray, List.set_cons_succ, List.set_cons_zero] at ha ⊢
            subst ha
            rcases i with _|_|_|_|_|_|i
            all_goals cases ho
            all_goals simp [Region.binds] at he
            · have h1 : L 1 = false := by cases hh : L 1 with | false => rfl | true => (have hq := q1 hh; simp [hi] at hq)
              have h2 : L 2 = false := by cases hh : L 2 with | false => rfl | true => (have hq := q2 hh; simp [h1] at hq)
              have h3 : L 3 = false := by cases hh : L 3 with | false => rfl | true => (have hq := q3 hh; simp [h2] at hq)
              have h5 : L 5 = false := by cases hh : L 5 with | false => rfl | true => (have hq := q5 hh; simp [h3] at hq)
              refine wpOp_step rfl (fun K hK => ?_)
              go_simp
              exact hK _ _ ⟨_, _, _, _, _, rfl, (fun _ => rfl), (by simp [h1]), (by simp [h2]), (by simp [h3]), (by first | exact p4 | exact fun _ => rfl), (by simp [h1]), (by simp [h2]), (by simp [h3]), (by simp [h5]), (by simpa [h1, h2, h3, h5] using hS)⟩
            · have h2 : L 2 = false := by cases hh : L 2 with | false => rfl | true => (have hq := q2 hh; simp [hi] at hq)
              have h3 : L 3 = false := by cases hh : L 3 with | false => rfl | true => (have hq := q3 hh; simp [h2] at hq)
              have h5 : L 5 = false := by cases hh : L 5 with | false => rfl | true => (have hq := q5 hh; simp [h3] at hq)
              obtain rfl := p0 (by simp [he])
              refine wpOp_step rfl (fun K hK => ?_)
              go_simp
              exact hK _ _ ⟨_, _, _, _, _, rfl, (by first | exact p0 | exact fun _ => rfl), (fun _ => rfl), (by simp [h2]), (by simp [h3]), (by first | exact p4 | exact fun _ => rfl), (by simp [he]), (by simp [h2]), (by simp [h3]), (by simp [h5]), (by simpa [h2, h3, h5] using hS)⟩
            · have h3 : L 3 = false := by cases hh : L 3 with | false => rfl | true => (have hq := q3 hh; simp [hi] at hq)
              have h5 : L 5 = false := by cases hh : L 5 with | false => rfl | true => (have hq := q5 hh; simp [h3] at hq)
              obtain rfl := p1 (by simp [he])
              refine wpOp_step rfl (fun K hK => ?_)
              go_simp
              exact hK _ _ ⟨_, _, _, _, _, rfl, (by first | exact p0 | exact fun _ => rfl), (by first | exact p1 | exact fun _ => rfl), (fun _ => rfl), (by simp [h3]), (by first | exact p4 | exact fun _ => rfl), (by simpa using q1), (by simp [he]), (by simp [h3]), (by simp [h5]), (by simpa [h3, h5] using hS)⟩
            · have h5 : L 5 = false := by cases hh : L 5 with | false => rfl | true => (have hq := q5 hh; simp [hi] at hq)
              obtain rfl := p2 (by simp [he])
              have f0 : w'.cell? ⟨gd, 2, none⟩ = some (.map (some go)) := by
                rw [if_neg (by simp [h5])] at hS
                exact hS.cell 0 rfl (k := 2) rfl
              refine wpOp_step rfl (fun K hK => ?_)
              go_simp
              exact hK _ _ ⟨_, _, _, _, _, rfl, (by first | exact p0 | exact fun _ => rfl), (by first | exact p1 | exact fun _ => rfl), (by first | exact p2 | exact fun _ => rfl), (fun _ => rfl), (by first | exact p4 | exact fun _ => rfl), (by simpa using q1), (by simpa using q2), (by simp [he]), (by simp [h5]), (by simpa [h5] using hS)⟩
            · have h5 : L 5 = false := by cases hh : L 5 with | false => rfl | true => (have hq := q5 hh; simp [hi] at hq)
              have f0 : w'.cell? ⟨gs, 0, none⟩ = some (.int .i64 (nx : Int)) := by
                rw [if_neg (by simp [h5])] at hS
                exact hS.cell 4 rfl (k := 0) rfl
              have f1 : w'.cell? ⟨gs, 1, none⟩ = some (.int .i64 (q : Int)) := by
                rw [if_neg (by simp [h5])] at hS
                exact hS.cell 4 rfl (k := 1) rfl
              refine wpOp_step rfl (fun K hK => ?_)
              go_simp
              exact hK _ _ ⟨_, _, _, _, _, rfl, (by first | exact p0 | exact fun _ => rfl), (by first | exact p1 | exact fun _ => rfl), (by first | exact p2 | exact fun _ => rfl), (by first | exact p3 | exact fun _ => rfl), (fun _ => rfl), (by simpa using q1), (by simpa using q2), (by simpa using q3), (by simp [h5]), (by simpa [h5] using hS)⟩
            · obtain rfl := p3 (by simp [he])
              obtain rfl := p4 (by simp [he])
              rw [if_neg (by simp [hi])] at hS
              obtain ⟨w5, hrun, _, hN⟩ := hS.drop 2 rfl kspot HSO.out Try.underlying88
              simp only [smk] at hrun
              refine wpOp_step rfl (fun K hK => ?_)
              go_simp
              exact hK _ _ ⟨_, _, _, _, _, rfl, (by first | exact p0 | exact fun _ => rfl), (by first | exact p1 | exact fun _ => rfl), (by first | exact p2 | exact fun _ => rfl), (by first | exact p3 | exact fun _ => rfl), (by first | exact p4 | exact fun _ => rfl), (by simpa using q1), (by simpa using q2), (by simpa using q3), (by simp [he]), (by rw [if_pos (by simp)]; exact hN)⟩
          · rintro L ac w' ⟨x50, x51, x52, x53, x54, ha, p0, p1, p2, p3, p4, q1, q2, q3, q5, hS⟩ hall
            have t5 := hall 5 (by decide)
            rw [if_pos t5] at hS
            
            obtain rfl := p0 (hall 0 (by decide))
            obtain rfl := p1 (hall 1 (by decide))
            obtain rfl := p2 (hall 2 (by decide))
            obtain rfl := p3 (hall 3 (by decide))
            obtain rfl := p4 (hall 4 (by decide))
            simp only [turn, List.foldl_cons, List.foldl_nil, List.setIfInBounds_toArray, List.set_cons_succ, List.set_cons_zero] at ha
            subst ha
            clear q1 q2 q3 q5  t5
            have H9 := Lib.hid hS
            clear hS
            go_wp2
            go_roundg (4 - (q + 1))
            case measure => omega
            case rel => exact ⟨q + 1, by omega, rfl, by go_num, HFIN.out _ ⟨_, _, _, _, HCC.out, H9.out.sub (.cons_cons _ (.cons_cons _ (.cons_cons _ (.cons_cons _ (.cons _ (.refl _))))))⟩⟩
      · obtain rfl : q = 4 := by omega
        have HADV := Lib.hid hadv
        obtain ⟨gf, c, no, na, hc, H5⟩ := hst
        obtain ⟨y1, hy1⟩ : ∃ y1, fl2[nx]? = some y1 := ⟨_, List.getElem?_eq_getElem (by rw [hadv.inv.rt.1]; exact HN8.out)⟩
        have hw1 := hadv.inv.wear y1 (List.mem_of_getElem? hy1)
        have HWAY : Hid (Nd.Way fl2 ⟨2, (nx : Int), 0, 0⟩ (fl2.set nx (.blank (y1.wear + 1))) 0 0) := Lib.hid (.erase hy1 (by have := HW.out; omega))
        have HLO : Hid ((fl2.set nx (.blank (y1.wear + 1))).length = 8) := Lib.hid (by rw [List.length_set]; exact hadv.inv.rt.1)
        have HER := Lib.hid (hadv.erased HNE.out hy1 HW.out)
        have HB := Lib.hid H5
        clear H5 hadv hy1 hw1 hlt hq
        go_wp2_with fail
        refine (do_any gd h1 go ga (some ⟨gf, 0, none⟩) c fl2 (fl2.set nx (.blank (y1.wear + 1))) ⟨2, (nx : Int), 0, 0⟩ 0 _ w0 _ HB.out HADV.out.inv.rt HWAY.out HLO.out).mono ?_
        rintro en w5 ⟨rfl, A2, c2, hc2, K2⟩
        have H9 := Lib.hid K2
        clear K2 HB
        go_wp2
        refine bodyPost_end (v := .tuple #[]) (by simp [results, Try.results55]) rfl ?_
        exact ⟨rfl, _, _, _, St.mk H9.out hc2, HER.out⟩
end Ft
end Go.Proofs.Ytfljbiobiobamaa
