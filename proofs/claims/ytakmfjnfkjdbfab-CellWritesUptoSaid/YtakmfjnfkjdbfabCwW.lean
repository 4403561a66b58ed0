/-
  slices.Repeat of one byte, of one bool. Conditions: none beyond each theorem's own premises.
-/
import Derived.Test.YtakmfjnfkjdbfabCellW3
import Derived.Test.YtakmfjnfkjdbfabRep
import Derived.Test.YtakmfjnfkjdbfabInv
import Derived.Test.YtakmfjnfkjdbfabHead
namespace Go.Proofs.Ytakmfjnfkjdbfab
open Go.RowKit
set_option linter.unusedVariables false
namespace Cw
set_option maxRecDepth 100000 in
set_option maxHeartbeats 3200000 in
theorem reps_bool (A : Option Addr) (c k : Nat) (x : Value) (w : World) (hr : Rd w w.heap.size 1 A 1 [x]) (hx1 : x.oneCell' = true) (hk : 1 ≤ k) (hk8 : k ≤ 8388608) :
    Calls Try.prog 15 #[.slice A 1 c, .int .i64 (k : Int)] w (SliceRet w 4 1 k (List.replicate k x)) := by
  obtain ⟨ti, hti, t0, t1, t2⟩ := info_parts Cell.bool_info
  have hC := size_of_info (P := Try.prog) hti t1
  have hmk : ∀ W, (Instr.makeSlice 39 (.int .i64 (k : Int)) (.int .i64 (k : Int))).run Try.prog W = .ok (.slice (some ⟨W.heap.size, 0, none⟩) k k) (W.alloc (.cells (madeCells (Value.bool false).cells k) 4)) := fun W => by
    have := run_make (P := Try.prog) W 39 4 ti (Value.bool false) Try.underlying39 hti t0 .i64 .i64 (k : Int) (k : Int) (by omega) (Int.le_refl _) (by rw [t2]; omega) (by omega)
    rw [Int.toNat_natCast, t1, Nat.mul_one] at this
    exact this
  have hml : (madeCells (Value.bool false).cells k).toList.length = k := by
    have h2 : (madeCells (Value.bool false).cells k).toList = List.replicate k (Value.bool false) := toList_madeCells_one (Value.bool false) k
    rw [h2]
    simp
  generalize madeCells (Value.bool false).cells k = cs at hmk hml
  have cM := Lib.hid (mul_any 1 k (by omega) (by omega) w)
  rw [Nat.one_mul, Nat.div_eq_of_lt (by omega), Nat.mod_eq_of_lt (by omega)] at cM
  have HR := Lib.hid hr
  have z1 : ¬ (k : Int) < 0 := by omega
  have z4 : k ≤ 9223372036854775807 := by omega
  have HML := Lib.hid hml
  clear hr hml
  go_enter Try.func15, Try.ntmps15
  go_wp2_with fail
  refine cM.out.mono ?_; rintro e w9 ⟨rfl, hw9⟩
  have hw8 := hw9.symm
  subst hw8
  clear cM
  have S1 : Hid (Sep w (w.alloc (.cells cs 4)) [.row 4 1 (.slice (some ⟨w.heap.size, 0, none⟩) k k) k cs.toList]) := Lib.hid (by
    have := (Sep.nil_ w).newRow 4 1 k cs.toList (by rw [HML.out, Nat.mul_one]) (by simp only [maxLen]; omega)
    simpa using this)
  go_upto_region 7 with (fail)
  generalize w.alloc (.cells cs 4) = w1 at S1 ⊢
  generalize cs.toList = l0 at S1 HML
  generalize w.heap.size = g at S1 ⊢
  clear hmk cs
  have hxr : Rd w1 w1.heap.size 1 A 1 [x] := HR.out.below S1.out.below |>.more S1.out.below.size
  obtain ⟨w2, hcp, hS2⟩ := run_copy_sep (P := Try.prog) S1.out 0 (dT := 39) (sT := 39) Try.underlying39 hC (by omega) rfl 0 1 k 1 _ _ _ (by simp only [Nat.min_def]; split <;> omega) (by omega) hxr (by omega) (by intro v hv; simp at hv; rw [hv]; exact hx1)
  have hcp' : ∀ ty dc sc, (Builtin.copy_ #[39, 39] ty #[.slice (some ⟨g, 0, none⟩) k dc, .slice A 1 sc]).run Try.prog w1 = .ok (.int .i64 1) w2 := fun ty dc sc => by
    have := hcp ty dc sc
    simpa [goInt] using this
  have S2 : Hid (Sep w w2 [.row 4 1 (.slice (some ⟨g, 0, none⟩) k k) k (x :: l0.tail)]) := Lib.hid (by simpa using hS2)
  have HL1 : Hid ((x :: l0.tail).length = k) := Lib.hid (by simp; have := HML.out; omega)
  have HT1 : Hid ((x :: l0.tail).take 1 = List.replicate 1 x) := Lib.hid (by simp)
  clear hcp hS2 hxr
  go_upto_region 8 with (at_builtin; refine wpList_copy_runI _ rfl _ _ 39 39 rfl _ _ rfl rfl (hcp' _ _ _) ?_)
  generalize (x :: l0.tail) = l1 at S2 HL1 HT1
  clear hcp' S1
  go_wp2
  go_loopg [8] (k - 1) (fun q v10 wr => ∃ (bp : Nat) (l : List Value), 1 ≤ bp ∧ bp ≤ k ∧ q = k - bp ∧ v10 = .int .i64 bp ∧ Hid (l.length = k) ∧ Hid (l.take bp = List.replicate bp x) ∧ Sep w wr [.row 4 1 (.slice (some ⟨g, 0, none⟩) k k) k l])
  case atStart => exact ⟨1, l1, Nat.le_refl _, hk, rfl, rfl, HL1, HT1, S2.out⟩
  case round =>
    clear S2 HL1 HT1 l1 w2
    obtain ⟨bp, l, hb1, hbk, rfl, rfl, HL, HT, hs⟩ := hrel
    have HS := Lib.hid hs
    clear hs
    by_cases hlt : bp < k
    · obtain ⟨d, hd⟩ : ∃ d, k = bp + d := ⟨k - bp, by omega⟩
      obtain ⟨m, hm⟩ : ∃ m, m = Nat.min bp d := ⟨_, rfl⟩
      have hm1 : 1 ≤ m ∧ m ≤ bp ∧ m ≤ d := by rw [hm]; simp only [Nat.min_def]; split <;> omega
      have hs1 : ∀ W, (Instr.slice 39 (.slice (some ⟨g, 0, none⟩) k k) (some (.int .i64 (bp : Int))) none none).run Try.prog W = .ok (.slice (some ⟨g, bp, none⟩) d d) W := fun W => by
        have := from_run (P := Try.prog) Try.underlying39 hC (some ⟨g, 0, none⟩) k k bp (by omega) W
        rw [fromAddr_some g k bp 1 (by omega), Nat.mul_one, show k - bp = d by omega] at this
        exact this
      have hs2 := upto_run (P := Try.prog) Try.underlying39 hC (some ⟨g, 0, none⟩) k k bp (by omega)
      have HD := Lib.hid hd
      have HMM := Lib.hid hm
      have HM1 := Lib.hid hm1
      have i1 : (bp : Int) < (k : Int) := by omega
      clear hd hm hm1
      go_upto_region 9 with (fail)
      obtain ⟨l2, hl2⟩ : ∃ l2, l2 = l.take bp ++ List.replicate m x ++ l.drop (bp + m) := ⟨_, rfl⟩
      have HL2 : Hid (l2.length = k) := Lib.hid (by
        obtain ⟨m1, m2, m3⟩ := HM1.out
        have := HL.out; have := HD.out
        rw [hl2]
        simp
        omega)
      obtain ⟨bp2, HB2⟩ : ∃ bp2, Hid (bp2 = bp + m) := ⟨_, Lib.hid rfl⟩
      have HT2 : Hid (l2.take bp2 = List.replicate bp2 x) := Lib.hid (by
        obtain ⟨m1, m2, m3⟩ := HM1.out
        rw [hl2, HB2.out]
        exact rep_take (k := k) HT.out (by have := HL.out; omega) m2 (by have := HD.out; omega))
      have HCP : Hid (∀ V, Sep w V [.row 4 1 (.slice (some ⟨g, 0, none⟩) k k) k l] → ∃ w5, (∀ ty, (Builtin.copy_ #[39, 39] ty #[.slice (some ⟨g, bp, none⟩) d d, .slice (some ⟨g, 0, none⟩) bp k]).run Try.prog V = .ok (.int .i64 (m : Int)) w5) ∧ Sep w w5 [.row 4 1 (.slice (some ⟨g, 0, none⟩) k k) k l2]) := Lib.hid (fun V hV => by
        obtain ⟨m1, m2, m3⟩ := HM1.out
        have hrd : Rd V V.heap.size 1 (some ⟨g, 0, none⟩) m (List.replicate m x) := by
          have h0 := hV.rd 0 rfl
          refine ⟨by simp, fun _ => ?_⟩
          obtain ⟨b, off, e, hb, hc⟩ := h0.2 (by omega)
          cases e
          refine ⟨_, _, rfl, hb, fun j u hj => hc j u ?_⟩
          rw [List.getElem?_replicate] at hj
          split at hj
          · cases hj
            have h1 := congrArg (fun l => l[j]?) HT.out
            simp only [List.getElem?_take, List.getElem?_replicate] at h1
            rw [if_pos (by omega), if_pos (by omega)] at h1
            exact h1
          · cases hj
        obtain ⟨w5, h5, hS5⟩ := run_copy_sep (P := Try.prog) hV 0 (dT := 39) (sT := 39) Try.underlying39 hC (by omega) rfl bp m d bp _ _ _ HMM.out.symm (by omega) hrd (by have := HD.out; omega) (by intro v hv; rw [List.mem_replicate] at hv; rw [hv.2]; exact hx1)
        refine ⟨w5, fun ty => ?_, ?_⟩
        · have := h5 ty d k
          rw [Nat.mul_one] at this
          simpa [goInt] using this
        · rw [hl2]
          simp only [Nat.mul_one] at hS5
          exact hS5)
      have kb : (bp : Int) + (m : Int) = (bp2 : Int) := by rw [HB2.out]; omega
      have kb2 : bp2 ≤ k := by have := HB2.out; have := HD.out; have := HM1.out; omega
      have kb3 : IntKind.i64.wrap (bp2 : Int) = (bp2 : Int) := by rw [IntKind.wrap_i64]; omega
      clear hl2
      refine wp_region_inv0 (fun ac0 L ac w' => ∃ x8 x38 x39 x40 x41 x42 x43 x44 x45 x46, ac = turn ac0 [(8, x8), (38, x38), (39, x39), (40, x40), (41, x41), (42, x42), (43, x43), (44, x44), (45, x45), (46, x46)] ∧ (L 0 = true → x38 = .int .i64 (bp : Int)) ∧ (L 1 = true → x39 = .slice (some ⟨g, 0, none⟩) k k) ∧ (L 2 = true → x40 = .int .i64 (bp : Int)) ∧ (L 3 = true → x41 = .slice (some ⟨g, bp, none⟩) d d) ∧ (L 4 = true → x42 = .slice (some ⟨g, 0, none⟩) k k) ∧ (L 5 = true → x43 = .int .i64 (bp : Int)) ∧ (L 6 = true → x44 = .slice (some ⟨g, 0, none⟩) bp k) ∧ (L 8 = true → x46 = .int .i64 (bp2 : Int)) ∧ (L 9 = true → x8 = .int .i64 (bp2 : Int)) ∧ (L 3 = true → L 1 = true ∧ L 2 = true) ∧ (L 6 = true → L 4 = true ∧ L 5 = true) ∧ (L 7 = true → L 3 = true ∧ L 6 = true) ∧ (L 8 = true → L 0 = true ∧ L 7 = true) ∧ (L 9 = true → L 0 = true ∧ L 1 = true ∧ L 2 = true ∧ L 3 = true ∧ L 4 = true ∧ L 5 = true ∧ L 6 = true ∧ L 7 = true ∧ L 8 = true) ∧ (L 9 = false → x8 = .int .i64 (bp : Int)) ∧ (if L 7 = true then (x45 = .int .i64 (m : Int) ∧ Sep w w' [.row 4 1 (.slice (some ⟨g, 0, none⟩) k k) k  l2]) else Sep w w' [.row 4 1 (.slice (some ⟨g, 0, none⟩) k k) k  l])) rfl (by kernel_rfl) ?_ ?_ ?_
      · simp only [turn, List.foldl_cons, List.foldl_nil, List.setIfInBounds_toArray, List.set_cons_succ, List.set_cons_zero]
        exact ⟨_, _, _, _, _, _, _, _, _, _, rfl, (fun h => absurd h (by decide)), (fun h => absurd h (by decide)), (fun h => absurd h (by decide)), (fun h => absurd h (by decide)), (fun h => absurd h (by decide)), (fun h => absurd h (by decide)), (fun h => absurd h (by decide)), (fun h => absurd h (by decide)), (fun h => absurd h (by decide)), (fun h => absurd h (by decide)), (fun h => absurd h (by decide)), (fun h => absurd h (by decide)), (fun h => absurd h (by decide)), (fun h => absurd h (by decide)), (fun _ => rfl), by simpa using HS.out.drew⟩
      · rintro L ac w' i o ⟨x8, x38, x39, x40, x41, x42, x43, x44, x45, x46, ha, p0, p1, p2, p3, p4, p5, p6, p8, p9, q3, q6, q7, q8, q9, n9, hS⟩ ho hi he
        simp only [turn, List.foldl_cons, List.foldl_nil, List.setIfInBounds_toArray, List.set_cons_succ, List.set_cons_zero] at ha ⊢
        subst ha
        rcases i with _|_|_|_|_|_|_|_|_|_|i
        all_goals cases ho
        all_goals simp [Region.binds] at he
        · have h8 : L 8 = false := by cases hh : L 8 with | false => rfl | true => (have hq := q8 hh; simp [hi] at hq)
          have h9 : L 9 = false := by cases hh : L 9 with | false => rfl | true => (have hq := q9 hh; simp [hi] at hq)
          obtain rfl := n9 h9
          refine wpOp_step rfl (fun K hK => ?_)
          go_simp
          exact hK _ _ ⟨_, _, _, _, _, _, _, _, _, _, rfl, (fun _ => rfl), (by first | exact p1 | exact fun _ => rfl), (by first | exact p2 | exact fun _ => rfl), (by first | exact p3 | exact fun _ => rfl), (by first | exact p4 | exact fun _ => rfl), (by first | exact p5 | exact fun _ => rfl), (by first | exact p6 | exact fun _ => rfl), (by simp [h8]), (by simp [h9]), (by simpa using q3), (by simpa using q6), (by simpa using q7), (by simp [h8]), (by simp [h9]), (by first | exact fun _ => rfl | exact n9), (by simpa [h8, h9] using hS)⟩
        · have h3 : L 3 = false := by cases hh : L 3 with | false => rfl | true => (have hq := q3 hh; simp [hi] at hq)
          have h9 : L 9 = false := by cases hh : L 9 with | false => rfl | true => (have hq := q9 hh; simp [hi] at hq)
          have h7 : L 7 = false := by cases hh : L 7 with | false => rfl | true => (have hq := q7 hh; simp [h3] at hq)
          have h8 : L 8 = false := by cases hh : L 8 with | false => rfl | true => (have hq := q8 hh; simp [h7] at hq)
          refine wpOp_step rfl (fun K hK => ?_)
          go_simp
          exact hK _ _ ⟨_, _, _, _, _, _, _, _, _, _, rfl, (by first | exact p0 | exact fun _ => rfl), (fun _ => rfl), (by first | exact p2 | exact fun _ => rfl), (by simp [h3]), (by first | exact p4 | exact fun _ => rfl), (by first | exact p5 | exact fun _ => rfl), (by first | exact p6 | exact fun _ => rfl), (by simp [h8]), (by simp [h9]), (by simp [h3]), (by simpa using q6), (by simp [h7]), (by simp [h8]), (by simp [h9]), (by first | exact fun _ => rfl | exact n9), (by simpa [h3, h9, h7, h8] using hS)⟩
        · have h3 : L 3 = false := by cases hh : L 3 with | false => rfl | true => (have hq := q3 hh; simp [hi] at hq)
          have h9 : L 9 = false := by cases hh : L 9 with | false => rfl | true => (have hq := q9 hh; simp [hi] at hq)
          have h7 : L 7 = false := by cases hh : L 7 with | false => rfl | true => (have hq := q7 hh; simp [h3] at hq)
          have h8 : L 8 = false := by cases hh : L 8 with | false => rfl | true => (have hq := q8 hh; simp [h7] at hq)
          obtain rfl := n9 h9
          refine wpOp_step rfl (fun K hK => ?_)
          go_simp
          exact hK _ _ ⟨_, _, _, _, _, _, _, _, _, _, rfl, (by first | exact p0 | exact fun _ => rfl), (by first | exact p1 | exact fun _ => rfl), (fun _ => rfl), (by simp [h3]), (by first | exact p4 | exact fun _ => rfl), (by first | exact p5 | exact fun _ => rfl), (by first | exact p6 | exact fun _ => rfl), (by simp [h8]), (by simp [h9]), (by simp [h3]), (by simpa using q6), (by simp [h7]), (by simp [h8]), (by simp [h9]), (by first | exact fun _ => rfl | exact n9), (by simpa [h3, h9, h7, h8] using hS)⟩
        · have h7 : L 7 = false := by cases hh : L 7 with | false => rfl | true => (have hq := q7 hh; simp [hi] at hq)
          have h9 : L 9 = false := by cases hh : L 9 with | false => rfl | true => (have hq := q9 hh; simp [hi] at hq)
          have h8 : L 8 = false := by cases hh : L 8 with | false => rfl | true => (have hq := q8 hh; simp [h7] at hq)
          obtain rfl := p1 (by simp [he])
          obtain rfl := p2 (by simp [he])
          refine wpOp_step rfl (fun K hK => ?_)
          go_simp
          exact hK _ _ ⟨_, _, _, _, _, _, _, _, _, _, rfl, (by first | exact p0 | exact fun _ => rfl), (by first | exact p1 | exact fun _ => rfl), (by first | exact p2 | exact fun _ => rfl), (fun _ => rfl), (by first | exact p4 | exact fun _ => rfl), (by first | exact p5 | exact fun _ => rfl), (by first | exact p6 | exact fun _ => rfl), (by simp [h8]), (by simp [h9]), (by simp [he]), (by simpa using q6), (by simp [h7]), (by simp [h8]), (by simp [h9]), (by first | exact fun _ => rfl | exact n9), (by simpa [h7, h9, h8] using hS)⟩
        · have h6 : L 6 = false := by cases hh : L 6 with | false => rfl | true => (have hq := q6 hh; simp [hi] at hq)
          have h9 : L 9 = false := by cases hh : L 9 with | false => rfl | true => (have hq := q9 hh; simp [hi] at hq)
          have h7 : L 7 = false := by cases hh : L 7 with | false => rfl | true => (have hq := q7 hh; simp [h6] at hq)
          have h8 : L 8 = false := by cases hh : L 8 with | false => rfl | true => (have hq := q8 hh; simp [h7] at hq)
          refine wpOp_step rfl (fun K hK => ?_)
          go_simp
          exact hK _ _ ⟨_, _, _, _, _, _, _, _, _, _, rfl, (by first | exact p0 | exact fun _ => rfl), (by first | exact p1 | exact fun _ => rfl), (by first | exact p2 | exact fun _ => rfl), (by first | exact p3 | exact fun _ => rfl), (fun _ => rfl), (by first | exact p5 | exact fun _ => rfl), (by simp [h6]), (by simp [h8]), (by simp [h9]), (by simpa using q3), (by simp [h6]), (by simp [h7]), (by simp [h8]), (by simp [h9]), (by first | exact fun _ => rfl | exact n9), (by simpa [h6, h9, h7, h8] using hS)⟩
        · have h6 : L 6 = false := by cases hh : L 6 with | false => rfl | true => (have hq := q6 hh; simp [hi] at hq)
          have h9 : L 9 = false := by cases hh : L 9 with | false => rfl | true => (have hq := q9 hh; simp [hi] at hq)
          have h7 : L 7 = false := by cases hh : L 7 with | false => rfl | true => (have hq := q7 hh; simp [h6] at hq)
          have h8 : L 8 = false := by cases hh : L 8 with | false => rfl | true => (have hq := q8 hh; simp [h7] at hq)
          obtain rfl := n9 h9
          refine wpOp_step rfl (fun K hK => ?_)
          go_simp
          exact hK _ _ ⟨_, _, _, _, _, _, _, _, _, _, rfl, (by first | exact p0 | exact fun _ => rfl), (by first | exact p1 | exact fun _ => rfl), (by first | exact p2 | exact fun _ => rfl), (by first | exact p3 | exact fun _ => rfl), (by first | exact p4 | exact fun _ => rfl), (fun _ => rfl), (by simp [h6]), (by simp [h8]), (by simp [h9]), (by simpa using q3), (by simp [h6]), (by simp [h7]), (by simp [h8]), (by simp [h9]), (by first | exact fun _ => rfl | exact n9), (by simpa [h6, h9, h7, h8] using hS)⟩
        · have h7 : L 7 = false := by cases hh : L 7 with | false => rfl | true => (have hq := q7 hh; simp [hi] at hq)
          have h9 : L 9 = false := by cases hh : L 9 with | false => rfl | true => (have hq := q9 hh; simp [hi] at hq)
          have h8 : L 8 = false := by cases hh : L 8 with | false => rfl | true => (have hq := q8 hh; simp [h7] at hq)
          obtain rfl := p4 (by simp [he])
          obtain rfl := p5 (by simp [he])
          refine wpOp_step rfl (fun K hK => ?_)
          go_simp
          exact hK _ _ ⟨_, _, _, _, _, _, _, _, _, _, rfl, (by first | exact p0 | exact fun _ => rfl), (by first | exact p1 | exact fun _ => rfl), (by first | exact p2 | exact fun _ => rfl), (by first | exact p3 | exact fun _ => rfl), (by first | exact p4 | exact fun _ => rfl), (by first | exact p5 | exact fun _ => rfl), (fun _ => rfl), (by simp [h8]), (by simp [h9]), (by simpa using q3), (by simp [he]), (by simp [h7]), (by simp [h8]), (by simp [h9]), (by first | exact fun _ => rfl | exact n9), (by simpa [h7, h9, h8] using hS)⟩
        · have h8 : L 8 = false := by cases hh : L 8 with | false => rfl | true => (have hq := q8 hh; simp [hi] at hq)
          have h9 : L 9 = false := by cases hh : L 9 with | false => rfl | true => (have hq := q9 hh; simp [hi] at hq)
          obtain rfl := p3 (by simp [he])
          obtain rfl := p6 (by simp [he])
          rw [if_neg (by simp [hi])] at hS
          have hK := HCP.out w' hS
          obtain ⟨w5, hcp, hN⟩ := hK
          refine wpOp_at rfl rfl ?_
          refine wp_copy_runI w' _ _ 39 39 rfl _ _ rfl rfl (hcp _) ?_
          exact ⟨_, _, _, _, _, _, _, _, _, _, rfl, (by first | exact p0 | exact fun _ => rfl), (by first | exact p1 | exact fun _ => rfl), (by first | exact p2 | exact fun _ => rfl), (by first | exact p3 | exact fun _ => rfl), (by first | exact p4 | exact fun _ => rfl), (by first | exact p5 | exact fun _ => rfl), (by first | exact p6 | exact fun _ => rfl), (by simp [h8]), (by simp [h9]), (by simpa using q3), (by simpa using q6), (by simp [he]), (by simp [h8]), (by simp [h9]), (by first | exact fun _ => rfl | exact n9), (by rw [if_pos (by simp)]; exact ⟨rfl, hN⟩)⟩
        · have h9 : L 9 = false := by cases hh : L 9 with | false => rfl | true => (have hq := q9 hh; simp [hi] at hq)
          obtain rfl := p0 (by simp [he])
          obtain rfl : x45 = .int .i64 (m : Int) := by
            rw [if_pos (by simp [he])] at hS
            exact hS.1
          refine wpOp_step rfl (fun K hK => ?_)
          go_simp
          exact hK _ _ ⟨_, _, _, _, _, _, _, _, _, _, rfl, (by first | exact p0 | exact fun _ => rfl), (by first | exact p1 | exact fun _ => rfl), (by first | exact p2 | exact fun _ => rfl), (by first | exact p3 | exact fun _ => rfl), (by first | exact p4 | exact fun _ => rfl), (by first | exact p5 | exact fun _ => rfl), (by first | exact p6 | exact fun _ => rfl), (fun _ => rfl), (by simp [h9]), (by simpa using q3), (by simpa using q6), (by simpa using q7), (by simp [he]), (by simp [h9]), (by first | exact fun _ => rfl | exact n9), (by simpa [h9] using hS)⟩
        · obtain rfl := p8 (by simp [he])
          refine wpOp_step rfl (fun K hK => ?_)
          go_simp
          exact hK _ _ ⟨_, _, _, _, _, _, _, _, _, _, rfl, (by first | exact p0 | exact fun _ => rfl), (by first | exact p1 | exact fun _ => rfl), (by first | exact p2 | exact fun _ => rfl), (by first | exact p3 | exact fun _ => rfl), (by first | exact p4 | exact fun _ => rfl), (by first | exact p5 | exact fun _ => rfl), (by first | exact p6 | exact fun _ => rfl), (by first | exact p8 | exact fun _ => rfl), (fun _ => rfl), (by simpa using q3), (by simpa using q6), (by simpa using q7), (by simpa using q8), (by simp [he]), (by simp), (by simpa using hS)⟩
      · rintro L ac w' ⟨x8, x38, x39, x40, x41, x42, x43, x44, x45, x46, ha, p0, p1, p2, p3, p4, p5, p6, p8, p9, q3, q6, q7, q8, q9, n9, hS⟩ hall
        have t7 := hall 7 (by decide)
        rw [if_pos t7] at hS
        obtain ⟨rfl, hS⟩ := hS
        obtain rfl := p0 (hall 0 (by decide))
        obtain rfl := p1 (hall 1 (by decide))
        obtain rfl := p2 (hall 2 (by decide))
        obtain rfl := p3 (hall 3 (by decide))
        obtain rfl := p4 (hall 4 (by decide))
        obtain rfl := p5 (hall 5 (by decide))
        obtain rfl := p6 (hall 6 (by decide))
        obtain rfl := p8 (hall 8 (by decide))
        obtain rfl := p9 (hall 9 (by decide))
        simp only [turn, List.foldl_cons, List.foldl_nil, List.setIfInBounds_toArray, List.set_cons_succ, List.set_cons_zero] at ha
        subst ha
        clear q3 q6 q7 q8 q9 n9 t7
        have S2 := Lib.hid hS
        clear hS
        go_wp2
        go_roundg (k - bp2)
        case measure => have := HB2.out; have := HM1.out; omega
        case rel => exact ⟨bp2, _, by have := HB2.out; omega, kb2, rfl, rfl, HL2, HT2, S2.out⟩
    · obtain rfl : bp = k := by omega
      have hle : l = List.replicate bp x := by rw [← HT.out, List.take_of_length_le (by rw [HL.out]; exact Nat.le_refl _)]
      have HLE := Lib.hid hle
      clear hle
      go_wp2
      go_ret
      exact ⟨_, bp, Nat.le_refl _, rfl, by rw [← HLE.out]; exact HS.out⟩
set_option maxRecDepth 100000 in
set_option maxHeartbeats 3200000 in
theorem reps_byte (A : Option Addr) (c k : Nat) (x : Value) (w : World) (hr : Rd w w.heap.size 1 A 1 [x]) (hx1 : x.oneCell' = true) (hk : 1 ≤ k) (hk8 : k ≤ 8388608) :
    Calls Try.prog 13 #[.slice A 1 c, .int .i64 (k : Int)] w (SliceRet w 5 1 k (List.replicate k x)) := by
  obtain ⟨ti, hti, t0, t1, t2⟩ := info_parts byte_info
  have hC := size_of_info (P := Try.prog) hti t1
  have hmk : ∀ W, (Instr.makeSlice 34 (.int .i64 (k : Int)) (.int .i64 (k : Int))).run Try.prog W = .ok (.slice (some ⟨W.heap.size, 0, none⟩) k k) (W.alloc (.cells (madeCells (Value.int .u8 0).cells k) 5)) := fun W => by
    have := run_make (P := Try.prog) W 34 5 ti (Value.int .u8 0) Try.underlying34 hti t0 .i64 .i64 (k : Int) (k : Int) (by omega) (Int.le_refl _) (by rw [t2]; omega) (by omega)
    rw [Int.toNat_natCast, t1, Nat.mul_one] at this
    exact this
  have hml : (madeCells (Value.int .u8 0).cells k).toList.length = k := by
    have h2 : (madeCells (Value.int .u8 0).cells k).toList = List.replicate k (Value.int .u8 0) := toList_madeCells_one (Value.int .u8 0) k
    rw [h2]
    simp
  generalize madeCells (Value.int .u8 0).cells k = cs at hmk hml
  have cM := Lib.hid (mul_any 1 k (by omega) (by omega) w)
  rw [Nat.one_mul, Nat.div_eq_of_lt (by omega), Nat.mod_eq_of_lt (by omega)] at cM
  have HR := Lib.hid hr
  have z1 : ¬ (k : Int) < 0 := by omega
  have z4 : k ≤ 9223372036854775807 := by omega
  have HML := Lib.hid hml
  clear hr hml
  go_enter Try.func13, Try.ntmps13
  go_wp2_with fail
  refine cM.out.mono ?_; rintro e w9 ⟨rfl, hw9⟩
  have hw8 := hw9.symm
  subst hw8
  clear cM
  have S1 : Hid (Sep w (w.alloc (.cells cs 5)) [.row 5 1 (.slice (some ⟨w.heap.size, 0, none⟩) k k) k cs.toList]) := Lib.hid (by
    have := (Sep.nil_ w).newRow 5 1 k cs.toList (by rw [HML.out, Nat.mul_one]) (by simp only [maxLen]; omega)
    simpa using this)
  go_upto_region 7 with (fail)
  generalize w.alloc (.cells cs 5) = w1 at S1 ⊢
  generalize cs.toList = l0 at S1 HML
  generalize w.heap.size = g at S1 ⊢
  clear hmk cs
  have hxr : Rd w1 w1.heap.size 1 A 1 [x] := HR.out.below S1.out.below |>.more S1.out.below.size
  obtain ⟨w2, hcp, hS2⟩ := run_copy_sep (P := Try.prog) S1.out 0 (dT := 34) (sT := 34) Try.underlying34 hC (by omega) rfl 0 1 k 1 _ _ _ (by simp only [Nat.min_def]; split <;> omega) (by omega) hxr (by omega) (by intro v hv; simp at hv; rw [hv]; exact hx1)
  have hcp' : ∀ ty dc sc, (Builtin.copy_ #[34, 34] ty #[.slice (some ⟨g, 0, none⟩) k dc, .slice A 1 sc]).run Try.prog w1 = .ok (.int .i64 1) w2 := fun ty dc sc => by
    have := hcp ty dc sc
    simpa [goInt] using this
  have S2 : Hid (Sep w w2 [.row 5 1 (.slice (some ⟨g, 0, none⟩) k k) k (x :: l0.tail)]) := Lib.hid (by simpa using hS2)
  have HL1 : Hid ((x :: l0.tail).length = k) := Lib.hid (by simp; have := HML.out; omega)
  have HT1 : Hid ((x :: l0.tail).take 1 = List.replicate 1 x) := Lib.hid (by simp)
  clear hcp hS2 hxr
  go_upto_region 8 with (at_builtin; refine wpList_copy_runI _ rfl _ _ 34 34 rfl _ _ rfl rfl (hcp' _ _ _) ?_)
  generalize (x :: l0.tail) = l1 at S2 HL1 HT1
  clear hcp' S1
  go_wp2
  go_loopg [8] (k - 1) (fun q v10 wr => ∃ (bp : Nat) (l : List Value), 1 ≤ bp ∧ bp ≤ k ∧ q = k - bp ∧ v10 = .int .i64 bp ∧ Hid (l.length = k) ∧ Hid (l.take bp = List.replicate bp x) ∧ Sep w wr [.row 5 1 (.slice (some ⟨g, 0, none⟩) k k) k l])
  case atStart => exact ⟨1, l1, Nat.le_refl _, hk, rfl, rfl, HL1, HT1, S2.out⟩
  case round =>
    clear S2 HL1 HT1 l1 w2
    obtain ⟨bp, l, hb1, hbk, rfl, rfl, HL, HT, hs⟩ := hrel
    have HS := Lib.hid hs
    clear hs
    by_cases hlt : bp < k
    · obtain ⟨d, hd⟩ : ∃ d, k = bp + d := ⟨k - bp, by omega⟩
      obtain ⟨m, hm⟩ : ∃ m, m = Nat.min bp d := ⟨_, rfl⟩
      have hm1 : 1 ≤ m ∧ m ≤ bp ∧ m ≤ d := by rw [hm]; simp only [Nat.min_def]; split <;> omega
      have hs1 : ∀ W, (Instr.slice 34 (.slice (some ⟨g, 0, none⟩) k k) (some (.int .i64 (bp : Int))) none none).run Try.prog W = .ok (.slice (some ⟨g, bp, none⟩) d d) W := fun W => by
        have := from_run (P := Try.prog) Try.underlying34 hC (some ⟨g, 0, none⟩) k k bp (by omega) W
        rw [fromAddr_some g k bp 1 (by omega), Nat.mul_one, show k - bp = d by omega] at this
        exact this
      have hs2 := upto_run (P := Try.prog) Try.underlying34 hC (some ⟨g, 0, none⟩) k k bp (by omega)
      have HD := Lib.hid hd
      have HMM := Lib.hid hm
      have HM1 := Lib.hid hm1
      have i1 : (bp : Int) < (k : Int) := by omega
      clear hd hm hm1
      go_upto_region 9 with (fail)
      obtain ⟨l2, hl2⟩ : ∃ l2, l2 = l.take bp ++ List.replicate m x ++ l.drop (bp + m) := ⟨_, rfl⟩
      have HL2 : Hid (l2.length = k) := Lib.hid (by
        obtain ⟨m1, m2, m3⟩ := HM1.out
        have := HL.out; have := HD.out
        rw [hl2]
        simp
        omega)
      obtain ⟨bp2, HB2⟩ : ∃ bp2, Hid (bp2 = bp + m) := ⟨_, Lib.hid rfl⟩
      have HT2 : Hid (l2.take bp2 = List.replicate bp2 x) := Lib.hid (by
        obtain ⟨m1, m2, m3⟩ := HM1.out
        rw [hl2, HB2.out]
        exact rep_take (k := k) HT.out (by have := HL.out; omega) m2 (by have := HD.out; omega))
      have HCP : Hid (∀ V, Sep w V [.row 5 1 (.slice (some ⟨g, 0, none⟩) k k) k l] → ∃ w5, (∀ ty, (Builtin.copy_ #[34, 34] ty #[.slice (some ⟨g, bp, none⟩) d d, .slice (some ⟨g, 0, none⟩) bp k]).run Try.prog V = .ok (.int .i64 (m : Int)) w5) ∧ Sep w w5 [.row 5 1 (.slice (some ⟨g, 0, none⟩) k k) k l2]) := Lib.hid (fun V hV => by
        obtain ⟨m1, m2, m3⟩ := HM1.out
        have hrd : Rd V V.heap.size 1 (some ⟨g, 0, none⟩) m (List.replicate m x) := by
          have h0 := hV.rd 0 rfl
          refine ⟨by simp, fun _ => ?_⟩
          obtain ⟨b, off, e, hb, hc⟩ := h0.2 (by omega)
          cases e
          refine ⟨_, _, rfl, hb, fun j u hj => hc j u ?_⟩
          rw [List.getElem?_replicate] at hj
          split at hj
          · cases hj
            have h1 := congrArg (fun l => l[j]?) HT.out
            simp only [List.getElem?_take, List.getElem?_replicate] at h1
            rw [if_pos (by omega), if_pos (by omega)] at h1
            exact h1
          · cases hj
        obtain ⟨w5, h5, hS5⟩ := run_copy_sep (P := Try.prog) hV 0 (dT := 34) (sT := 34) Try.underlying34 hC (by omega) rfl bp m d bp _ _ _ HMM.out.symm (by omega) hrd (by have := HD.out; omega) (by intro v hv; rw [List.mem_replicate] at hv; rw [hv.2]; exact hx1)
        refine ⟨w5, fun ty => ?_, ?_⟩
        · have := h5 ty d k
          rw [Nat.mul_one] at this
          simpa [goInt] using this
        · rw [hl2]
          simp only [Nat.mul_one] at hS5
          exact hS5)
      have kb : (bp : Int) + (m : Int) = (bp2 : Int) := by rw [HB2.out]; omega
      have kb2 : bp2 ≤ k := by have := HB2.out; have := HD.out; have := HM1.out; omega
      have kb3 : IntKind.i64.wrap (bp2 : Int) = (bp2 : Int) := by rw [IntKind.wrap_i64]; omega
      clear hl2
      refine wp_region_inv0 (fun ac0 L ac w' => ∃ x8 x38 x39 x40 x41 x42 x43 x44 x45 x46, ac = turn ac0 [(8, x8), (38, x38), (39, x39), (40, x40), (41, x41), (42, x42), (43, x43), (44, x44), (45, x45), (46, x46)] ∧ (L 0 = true → x38 = .int .i64 (bp : Int)) ∧ (L 1 = true → x39 = .slice (some ⟨g, 0, none⟩) k k) ∧ (L 2 = true → x40 = .int .i64 (bp : Int)) ∧ (L 3 = true → x41 = .slice (some ⟨g, bp, none⟩) d d) ∧ (L 4 = true → x42 = .slice (some ⟨g, 0, none⟩) k k) ∧ (L 5 = true → x43 = .int .i64 (bp : Int)) ∧ (L 6 = true → x44 = .slice (some ⟨g, 0, none⟩) bp k) ∧ (L 8 = true → x46 = .int .i64 (bp2 : Int)) ∧ (L 9 = true → x8 = .int .i64 (bp2 : Int)) ∧ (L 3 = true → L 1 = true ∧ L 2 = true) ∧ (L 6 = true → L 4 = true ∧ L 5 = true) ∧ (L 7 = true → L 3 = true ∧ L 6 = true) ∧ (L 8 = true → L 0 = true ∧ L 7 = true) ∧ (L 9 = true → L 0 = true ∧ L 1 = true ∧ L 2 = true ∧ L 3 = true ∧ L 4 = true ∧ L 5 = true ∧ L 6 = true ∧ L 7 = true ∧ L 8 = true) ∧ (L 9 = false → x8 = .int .i64 (bp : Int)) ∧ (if L 7 = true then (x45 = .int .i64 (m : Int) ∧ Sep w w' [.row 5 1 (.slice (some ⟨g, 0, none⟩) k k) k  l2]) else Sep w w' [.row 5 1 (.slice (some ⟨g, 0, none⟩) k k) k  l])) rfl (by kernel_rfl) ?_ ?_ ?_
      · simp only [turn, List.foldl_cons, List.foldl_nil, List.setIfInBounds_toArray, List.set_cons_succ, List.set_cons_zero]
        exact ⟨_, _, _, _, _, _, _, _, _, _, rfl, (fun h => absurd h (by decide)), (fun h => absurd h (by decide)), (fun h => absurd h (by decide)), (fun h => absurd h (by decide)), (fun h => absurd h (by decide)), (fun h => absurd h (by decide)), (fun h => absurd h (by decide)), (fun h => absurd h (by decide)), (fun h => absurd h (by decide)), (fun h => absurd h (by decide)), (fun h => absurd h (by decide)), (fun h => absurd h (by decide)), (fun h => absurd h (by decide)), (fun h => absurd h (by decide)), (fun _ => rfl), by simpa using HS.out.drew⟩
      · rintro L ac w' i o ⟨x8, x38, x39, x40, x41, x42, x43, x44, x45, x46, ha, p0, p1, p2, p3, p4, p5, p6, p8, p9, q3, q6, q7, q8, q9, n9, hS⟩ ho hi he
        simp only [turn, List.foldl_cons, List.foldl_nil, List.setIfInBounds_toArray, List.set_cons_succ, List.set_cons_zero] at ha ⊢
        subst ha
        rcases i with _|_|_|_|_|_|_|_|_|_|i
        all_goals cases ho
        all_goals simp [Region.binds] at he
        · have h8 : L 8 = false := by cases hh : L 8 with | false => rfl | true => (have hq := q8 hh; simp [hi] at hq)
          have h9 : L 9 = false := by cases hh : L 9 with | false => rfl | true => (have hq := q9 hh; simp [hi] at hq)
          obtain rfl := n9 h9
          refine wpOp_step rfl (fun K hK => ?_)
          go_simp
          exact hK _ _ ⟨_, _, _, _, _, _, _, _, _, _, rfl, (fun _ => rfl), (by first | exact p1 | exact fun _ => rfl), (by first | exact p2 | exact fun _ => rfl), (by first | exact p3 | exact fun _ => rfl), (by first | exact p4 | exact fun _ => rfl), (by first | exact p5 | exact fun _ => rfl), (by first | exact p6 | exact fun _ => rfl), (by simp [h8]), (by simp [h9]), (by simpa using q3), (by simpa using q6), (by simpa using q7), (by simp [h8]), (by simp [h9]), (by first | exact fun _ => rfl | exact n9), (by simpa [h8, h9] using hS)⟩
        · have h3 : L 3 = false := by cases hh : L 3 with | false => rfl | true => (have hq := q3 hh; simp [hi] at hq)
          have h9 : L 9 = false := by cases hh : L 9 with | false => rfl | true => (have hq := q9 hh; simp [hi] at hq)
          have h7 : L 7 = false := by cases hh : L 7 with | false => rfl | true => (have hq := q7 hh; simp [h3] at hq)
          have h8 : L 8 = false := by cases hh : L 8 with | false => rfl | true => (have hq := q8 hh; simp [h7] at hq)
          refine wpOp_step rfl (fun K hK => ?_)
          go_simp
          exact hK _ _ ⟨_, _, _, _, _, _, _, _, _, _, rfl, (by first | exact p0 | exact fun _ => rfl), (fun _ => rfl), (by first | exact p2 | exact fun _ => rfl), (by simp [h3]), (by first | exact p4 | exact fun _ => rfl), (by first | exact p5 | exact fun _ => rfl), (by first | exact p6 | exact fun _ => rfl), (by simp [h8]), (by simp [h9]), (by simp [h3]), (by simpa using q6), (by simp [h7]), (by simp [h8]), (by simp [h9]), (by first | exact fun _ => rfl | exact n9), (by simpa [h3, h9, h7, h8] using hS)⟩
        · have h3 : L 3 = false := by cases hh : L 3 with | false => rfl | true => (have hq := q3 hh; simp [hi] at hq)
          have h9 : L 9 = false := by cases hh : L 9 with | false => rfl | true => (have hq := q9 hh; simp [hi] at hq)
          have h7 : L 7 = false := by cases hh : L 7 with | false => rfl | true => (have hq := q7 hh; simp [h3] at hq)
          have h8 : L 8 = false := by cases hh : L 8 with | false => rfl | true => (have hq := q8 hh; simp [h7] at hq)
          obtain rfl := n9 h9
          refine wpOp_step rfl (fun K hK => ?_)
          go_simp
          exact hK _ _ ⟨_, _, _, _, _, _, _, _, _, _, rfl, (by first | exact p0 | exact fun _ => rfl), (by first | exact p1 | exact fun _ => rfl), (fun _ => rfl), (by simp [h3]), (by first | exact p4 | exact fun _ => rfl), (by first | exact p5 | exact fun _ => rfl), (by first | exact p6 | exact fun _ => rfl), (by simp [h8]), (by simp [h9]), (by simp [h3]), (by simpa using q6), (by simp [h7]), (by simp [h8]), (by simp [h9]), (by first | exact fun _ => rfl | exact n9), (by simpa [h3, h9, h7, h8] using hS)⟩
        · have h7 : L 7 = false := by cases hh : L 7 with | false => rfl | true => (have hq := q7 hh; simp [hi] at hq)
          have h9 : L 9 = false := by cases hh : L 9 with | false => rfl | true => (have hq := q9 hh; simp [hi] at hq)
          have h8 : L 8 = false := by cases hh : L 8 with | false => rfl | true => (have hq := q8 hh; simp [h7] at hq)
          obtain rfl := p1 (by simp [he])
          obtain rfl := p2 (by simp [he])
          refine wpOp_step rfl (fun K hK => ?_)
          go_simp
          exact hK _ _ ⟨_, _, _, _, _, _, _, _, _, _, rfl, (by first | exact p0 | exact fun _ => rfl), (by first | exact p1 | exact fun _ => rfl), (by first | exact p2 | exact fun _ => rfl), (fun _ => rfl), (by first | exact p4 | exact fun _ => rfl), (by first | exact p5 | exact fun _ => rfl), (by first | exact p6 | exact fun _ => rfl), (by simp [h8]), (by simp [h9]), (by simp [he]), (by simpa using q6), (by simp [h7]), (by simp [h8]), (by simp [h9]), (by first | exact fun _ => rfl | exact n9), (by simpa [h7, h9, h8] using hS)⟩
        · have h6 : L 6 = false := by cases hh : L 6 with | false => rfl | true => (have hq := q6 hh; simp [hi] at hq)
          have h9 : L 9 = false := by cases hh : L 9 with | false => rfl | true => (have hq := q9 hh; simp [hi] at hq)
          have h7 : L 7 = false := by cases hh : L 7 with | false => rfl | true => (have hq := q7 hh; simp [h6] at hq)
          have h8 : L 8 = false := by cases hh : L 8 with | false => rfl | true => (have hq := q8 hh; simp [h7] at hq)
          refine wpOp_step rfl (fun K hK => ?_)
          go_simp
          exact hK _ _ ⟨_, _, _, _, _, _, _, _, _, _, rfl, (by first | exact p0 | exact fun _ => rfl), (by first | exact p1 | exact fun _ => rfl), (by first | exact p2 | exact fun _ => rfl), (by first | exact p3 | exact fun _ => rfl), (fun _ => rfl), (by first | exact p5 | exact fun _ => rfl), (by simp [h6]), (by simp [h8]), (by simp [h9]), (by simpa using q3), (by simp [h6]), (by simp [h7]), (by simp [h8]), (by simp [h9]), (by first | exact fun _ => rfl | exact n9), (by simpa [h6, h9, h7, h8] using hS)⟩
        · have h6 : L 6 = false := by cases hh : L 6 with | false => rfl | true => (have hq := q6 hh; simp [hi] at hq)
          have h9 : L 9 = false := by cases hh : L 9 with | false => rfl | true => (have hq := q9 hh; simp [hi] at hq)
          have h7 : L 7 = false := by cases hh : L 7 with | false => rfl | true => (have hq := q7 hh; simp [h6] at hq)
          have h8 : L 8 = false := by cases hh : L 8 with | false => rfl | true => (have hq := q8 hh; simp [h7] at hq)
          obtain rfl := n9 h9
          refine wpOp_step rfl (fun K hK => ?_)
          go_simp
          exact hK _ _ ⟨_, _, _, _, _, _, _, _, _, _, rfl, (by first | exact p0 | exact fun _ => rfl), (by first | exact p1 | exact fun _ => rfl), (by first | exact p2 | exact fun _ => rfl), (by first | exact p3 | exact fun _ => rfl), (by first | exact p4 | exact fun _ => rfl), (fun _ => rfl), (by simp [h6]), (by simp [h8]), (by simp [h9]), (by simpa using q3), (by simp [h6]), (by simp [h7]), (by simp [h8]), (by simp [h9]), (by first | exact fun _ => rfl | exact n9), (by simpa [h6, h9, h7, h8] using hS)⟩
        · have h7 : L 7 = false := by cases hh : L 7 with | false => rfl | true => (have hq := q7 hh; simp [hi] at hq)
          have h9 : L 9 = false := by cases hh : L 9 with | false => rfl | true => (have hq := q9 hh; simp [hi] at hq)
          have h8 : L 8 = false := by cases hh : L 8 with | false => rfl | true => (have hq := q8 hh; simp [h7] at hq)
          obtain rfl := p4 (by simp [he])
          obtain rfl := p5 (by simp [he])
          refine wpOp_step rfl (fun K hK => ?_)
          go_simp
          exact hK _ _ ⟨_, _, _, _, _, _, _, _, _, _, rfl, (by first | exact p0 | exact fun _ => rfl), (by first | exact p1 | exact fun _ => rfl), (by first | exact p2 | exact fun _ => rfl), (by first | exact p3 | exact fun _ => rfl), (by first | exact p4 | exact fun _ => rfl), (by first | exact p5 | exact fun _ => rfl), (fun _ => rfl), (by simp [h8]), (by simp [h9]), (by simpa using q3), (by simp [he]), (by simp [h7]), (by simp [h8]), (by simp [h9]), (by first | exact fun _ => rfl | exact n9), (by simpa [h7, h9, h8] using hS)⟩
        · have h8 : L 8 = false := by cases hh : L 8 with | false => rfl | true => (have hq := q8 hh; simp [hi] at hq)
          have h9 : L 9 = false := by cases hh : L 9 with | false => rfl | true => (have hq := q9 hh; simp [hi] at hq)
          obtain rfl := p3 (by simp [he])
          obtain rfl := p6 (by simp [he])
          rw [if_neg (by simp [hi])] at hS
          have hK := HCP.out w' hS
          obtain ⟨w5, hcp, hN⟩ := hK
          refine wpOp_at rfl rfl ?_
          refine wp_copy_runI w' _ _ 34 34 rfl _ _ rfl rfl (hcp _) ?_
          exact ⟨_, _, _, _, _, _, _, _, _, _, rfl, (by first | exact p0 | exact fun _ => rfl), (by first | exact p1 | exact fun _ => rfl), (by first | exact p2 | exact fun _ => rfl), (by first | exact p3 | exact fun _ => rfl), (by first | exact p4 | exact fun _ => rfl), (by first | exact p5 | exact fun _ => rfl), (by first | exact p6 | exact fun _ => rfl), (by simp [h8]), (by simp [h9]), (by simpa using q3), (by simpa using q6), (by simp [he]), (by simp [h8]), (by simp [h9]), (by first | exact fun _ => rfl | exact n9), (by rw [if_pos (by simp)]; exact ⟨rfl, hN⟩)⟩
        · have h9 : L 9 = false := by cases hh : L 9 with | false => rfl | true => (have hq := q9 hh; simp [hi] at hq)
          obtain rfl := p0 (by simp [he])
          obtain rfl : x45 = .int .i64 (m : Int) := by
            rw [if_pos (by simp [he])] at hS
            exact hS.1
          refine wpOp_step rfl (fun K hK => ?_)
          go_simp
          exact hK _ _ ⟨_, _, _, _, _, _, _, _, _, _, rfl, (by first | exact p0 | exact fun _ => rfl), (by first | exact p1 | exact fun _ => rfl), (by first | exact p2 | exact fun _ => rfl), (by first | exact p3 | exact fun _ => rfl), (by first | exact p4 | exact fun _ => rfl), (by first | exact p5 | exact fun _ => rfl), (by first | exact p6 | exact fun _ => rfl), (fun _ => rfl), (by simp [h9]), (by simpa using q3), (by simpa using q6), (by simpa using q7), (by simp [he]), (by simp [h9]), (by first | exact fun _ => rfl | exact n9), (by simpa [h9] using hS)⟩
        · obtain rfl := p8 (by simp [he])
          refine wpOp_step rfl (fun K hK => ?_)
          go_simp
          exact hK _ _ ⟨_, _, _, _, _, _, _, _, _, _, rfl, (by first | exact p0 | exact fun _ => rfl), (by first | exact p1 | exact fun _ => rfl), (by first | exact p2 | exact fun _ => rfl), (by first | exact p3 | exact fun _ => rfl), (by first | exact p4 | exact fun _ => rfl), (by first | exact p5 | exact fun _ => rfl), (by first | exact p6 | exact fun _ => rfl), (by first | exact p8 | exact fun _ => rfl), (fun _ => rfl), (by simpa using q3), (by simpa using q6), (by simpa using q7), (by simpa using q8), (by simp [he]), (by simp), (by simpa using hS)⟩
      · rintro L ac w' ⟨x8, x38, x39, x40, x41, x42, x43, x44, x45, x46, ha, p0, p1, p2, p3, p4, p5, p6, p8, p9, q3, q6, q7, q8, q9, n9, hS⟩ hall
        have t7 := hall 7 (by decide)
        rw [if_pos t7] at hS
        obtain ⟨rfl, hS⟩ := hS
        obtain rfl := p0 (hall 0 (by decide))
        obtain rfl := p1 (hall 1 (by decide))
        obtain rfl := p2 (hall 2 (by decide))
        obtain rfl := p3 (hall 3 (by decide))
        obtain rfl := p4 (hall 4 (by decide))
        obtain rfl := p5 (hall 5 (by decide))
        obtain rfl := p6 (hall 6 (by decide))
        obtain rfl := p8 (hall 8 (by decide))
        obtain rfl := p9 (hall 9 (by decide))
        simp only [turn, List.foldl_cons, List.foldl_nil, List.setIfInBounds_toArray, List.set_cons_succ, List.set_cons_zero] at ha
        subst ha
        clear q3 q6 q7 q8 q9 n9 t7
        have S2 := Lib.hid hS
        clear hS
        go_wp2
        go_roundg (k - bp2)
        case measure => have := HB2.out; have := HM1.out; omega
        case rel => exact ⟨bp2, _, by have := HB2.out; omega, kb2, rfl, rfl, HL2, HT2, S2.out⟩
    · obtain rfl : bp = k := by omega
      have hle : l = List.replicate bp x := by rw [← HT.out, List.take_of_length_le (by rw [HL.out]; exact Nat.le_refl _)]
      have HLE := Lib.hid hle
      clear hle
      go_wp2
      go_ret
      exact ⟨_, bp, Nat.le_refl _, rfl, by rw [← HLE.out]; exact HS.out⟩
end Cw
end Go.Proofs.Ytakmfjnfkjdbfab
