/-
  Walks of dedup.store's put: a content that is kept already, one that is not. Conditions: none beyond each theorem's own premises.
-/
import Derived.Test.YtmbkonhclniolaaDdM
import Derived.Test.YtmbkonhclniolaaMap
import Derived.Test.YtmbkonhclniolaaInv
namespace Go.Proofs.Ytmbkonhclniolaa
open Go.RowKit
set_option linter.unusedVariables false
namespace Dd
def oenc (g : Nat) : Value := .pointer (some ⟨g, 0, none⟩)
def ienc (x : Int) : Value := .int .i64 x
abbrev om (g n : Nat) (h : Int → Option Nat) : It := .map Try.prog 3 (Value.int .i64) oenc g n h
abbrev nm (g n : Nat) (m : ByteArray → Option Int) : It := .map Try.prog 9 Value.string ienc g n m
abbrev stC (gs g1 g2 : Nat) : It := .cells gs 82 [.map (some g1), .map (some g2)]
theorem kint : KMk Try.prog 3 (Value.int .i64) (fun x => (Lit.int .i64 x).wf = true) := kmk_int Try.underlying3
theorem kstr : KMk Try.prog 9 Value.string (fun s => s.size ≤ maxLen) := kmk_string Try.underlying9
theorem oz (w : World) : (zeroValue 117).run Try.prog w = .ok (.pointer none) w := by kernel_rfl
theorem iz (w : World) : (zeroValue 3).run Try.prog w = .ok (.int .i64 0) w := by kernel_rfl

set_option maxRecDepth 100000 in
set_option maxHeartbeats 1600000 in
theorem put_held (gs g1 g2 n1 n2 j g c : Nat) (h : Int → Option Nat) (m : ByteArray → Option Int) (R : List It) (d d' : ByteArray) (v : Int) (w0 w : World)
    (hs : Sep w0 w (stC gs g1 g2 :: om g1 n1 h :: nm g2 n2 m :: R)) (hd : d.size ≤ maxLen) (hm : m d = some v) (hv : (Lit.int .i64 v).wf = true) (hh : h v = some g) (hc : c + 1 < 140737488355328) (hj : R[j]? = some (.cells g 120 [.string d', .int .i64 (c : Int)])) :
    Calls Try.prog 50 #[.pointer (some ⟨gs, 0, none⟩), .string d] w (fun e w' => e = .returned (.int .i64 v) ∧ Sep w0 w' (stC gs g1 g2 :: om g1 n1 h :: nm g2 n2 m :: R.set j (.cells g 120 [.string d', .int .i64 ((c + 1 : Nat) : Int)]))) := by
  have HS := Lib.hid hs
  have c0 := hs.cell 0 rfl (k := 0) rfl
  have c1 := hs.cell 0 rfl (k := 1) rfl
  have l1 := hs.look2 2 rfl kstr hd Try.underlying80 (iz w)
  have l2 := hs.look 1 rfl kint hv Try.underlying79 (oz w)
  rw [hm] at l1
  rw [hh] at l2
  simp only [Option.elim, Option.isSome, ienc, oenc] at l1 l2
  have hj' : (stC gs g1 g2 :: om g1 n1 h :: nm g2 n2 m :: R)[j + 3]? = some (.cells g 120 [.string d', .int .i64 (c : Int)]) := by simpa using hj
  have e1 := hs.cell (j + 3) hj' (k := 1) rfl
  have u1 := hs.froz (j + 3) hj' (k := 1)
  have H9 := Lib.hid (hs.set (j + 3) hj' (k := 1) (.int .i64 ((c + 1 : Nat) : Int)))
  have cc : (c : Int) + 1 = ((c + 1 : Nat) : Int) := by omega
  have c2 : (0 : Int) ≤ (c : Int) := by omega
  obtain ⟨cq, HCQ⟩ : ∃ cq : Nat, Hid (cq = c + 1) := ⟨_, Lib.hid rfl⟩
  rw [← HCQ.out] at H9 cc ⊢
  have c3 : (cq : Int) < 140737488355328 := by have := HCQ.out; omega
  clear hs hd hm hv hh hj hj' hc
  go_enter Try.func50, Try.ntmps50
  go_wp2
  go_ret
  exact ⟨rfl, H9.out⟩

set_option maxRecDepth 100000 in
set_option maxHeartbeats 3200000 in
theorem put_fresh (gs g1 g2 n1 n2 i : Nat) (h : Int → Option Nat) (m : ByteArray → Option Int) (R : List It) (d : ByteArray) (w0 w : World)
    (hs : Sep w0 w (stC gs g1 g2 :: om g1 n1 h :: nm g2 n2 m :: R)) (hd : d.size ≤ maxLen) (hm : m d = none) (hi : i + 1 < 140737488355328) (hn1 : n1 < maxLen) (hn2 : n2 < maxLen)
    (hlow : ∀ j : Nat, j < i → ∃ g, h (((j + 1 : Nat)) : Int) = some g) (hno : h ((i + 1 : Nat) : Int) = none) :
    Calls Try.prog 50 #[.pointer (some ⟨gs, 0, none⟩), .string d] w (fun e w' => e = .returned (.int .i64 ((i + 1 : Nat) : Int)) ∧
      ∃ gb, Sep w0 w' (stC gs g1 g2 :: om g1 (n1 + 1) (mup h ((i + 1 : Nat) : Int) gb) :: nm g2 (n2 + 1) (mup m d ((i + 1 : Nat) : Int)) :: (R ++ [.cells gb 120 [.string d, .int .i64 1]]))) := by
  have H0 := Lib.hid hs
  have HM := Lib.hid hm
  have HD := Lib.hid hd
  have HLOW := Lib.hid hlow
  have c1 := hs.cell 0 rfl (k := 1) rfl
  have l1 := hs.look2 2 rfl kstr hd Try.underlying80 (iz w)
  rw [hm] at l1
  simp only [Option.elim, Option.isSome] at l1
  obtain ⟨q, HQ⟩ : ∃ q : Nat, Hid (q = i + 1) := ⟨_, Lib.hid rfl⟩
  have HNO : Hid (h (q : Int) = none) := Lib.hid (by rw [HQ.out]; exact hno)
  have HQW : Hid ((Lit.int .i64 (q : Int)).wf = true) := Lib.hid (by have := HQ.out; exact WalkArith.wf_i64 (by omega))
  rw [← HQ.out]
  clear hs hd hm hno hlow
  go_enter Try.func50, Try.ntmps50
  go_wp2
  go_loopg [7] i (fun g v wr => ∃ (k : Nat), v = .int .i64 (k : Int) ∧ 1 ≤ k ∧ k ≤ i + 1 ∧ g = i + 1 - k ∧ Sep w0 wr (stC gs g1 g2 :: om g1 n1 h :: nm g2 n2 m :: R))
  case atStart => exact ⟨1, rfl, by omega, by omega, by omega, H0.out⟩
  case round =>
    clear H0 c1 l1
    obtain ⟨k, rfl, hk1, hk, rfl, hs⟩ := hrel
    have HS := Lib.hid hs
    have c0 := hs.cell 0 rfl (k := 0) rfl
    have kw : (Lit.int .i64 (k : Int)).wf = true := WalkArith.wf_i64 (by omega)
    have l2 := hs.look 1 rfl kint kw Try.underlying79 (oz wr)
    clear kw hs
    by_cases hlt : k ≤ i
    · obtain ⟨g, hg⟩ := HLOW.out (k - 1) (by omega)
      rw [show k - 1 + 1 = k by omega] at hg
      rw [hg] at l2
      simp only [Option.elim, oenc] at l2
      obtain ⟨kq, HKQ⟩ : ∃ kq : Nat, Hid (kq = k + 1) := ⟨_, Lib.hid rfl⟩
      have k1 : (k : Int) + 1 = (kq : Int) := by have := HKQ.out; omega
      have k2 : (0 : Int) ≤ (k : Int) := by omega
      have k3 : (kq : Int) < 140737488355328 := by have := HKQ.out; omega
      go_wp2
      go_roundg (i - k)
      case measure => omega
      case rel => exact ⟨kq, rfl, by have := HKQ.out; omega, by have := HKQ.out; omega, by have := HKQ.out; omega, HS.out⟩
    · have hkq : q = k := by have := HQ.out; omega
      subst hkq
      rw [HNO.out] at l2
      simp only [Option.elim] at l2
      clear hlt hk1 hk
      go_upto_block 6 with (fail)
      refine wp_region_inv0 (fun ac0 L ac w' => ∃ x40 x41 x42 x43 x44 x45 x46 x47 x48 x49 x50 x51 x52 x53 x54 x55 x56 x57, ac = turn ac0 [(40, x40), (41, x41), (42, x42), (43, x43), (44, x44), (45, x45), (46, x46), (47, x47), (48, x48), (49, x49), (50, x50), (51, x51), (52, x52), (53, x53), (54, x54), (55, x55), (56, x56), (57, x57)] ∧ (L 0 = true → x40 = .pointer (some ⟨gs, 0, none⟩)) ∧ (L 1 = true → x41 = .pointer (some ⟨gs, 0, none⟩)) ∧ (L 2 = true → x42 = .pointer (some ⟨gs, 0, none⟩)) ∧ (L 3 = true → x43 = .map (some g1)) ∧ (L 4 = true → x44 = .int .i64 (q : Int)) ∧ (L 5 = true → x45 = .pointer (some ⟨gs, 0, none⟩)) ∧ (L 6 = true → x46 = .pointer (some ⟨gs, 0, none⟩)) ∧ (L 7 = true → x47 = .pointer (some ⟨gs, 1, none⟩)) ∧ (L 8 = true → x48 = .map (some g2)) ∧ (L 9 = true → x49 = .string d) ∧ (L 10 = true → x50 = .string d) ∧ (L 11 = true → x51 = .agg #[.string d, .int .i64 1]) ∧ (L 13 = true → x53 = .int .i64 (q : Int)) ∧ (L 15 = true → x55 = sndOf x54) ∧ (L 18 = true → x57 = sndOf x56) ∧ (L 1 = true → L 0 = true) ∧ (L 2 = true → L 1 = true) ∧ (L 3 = true → L 2 = true) ∧ (L 6 = true → L 5 = true) ∧ (L 7 = true → L 6 = true) ∧ (L 8 = true → L 7 = true) ∧ (L 11 = true → L 10 = true) ∧ (L 12 = true → L 11 = true) ∧ (L 14 = true → L 3 = true ∧ L 4 = true ∧ L 8 = true) ∧ (L 15 = true → L 14 = true) ∧ (L 16 = true → L 0 = true ∧ L 1 = true ∧ L 2 = true ∧ L 3 = true ∧ L 4 = true ∧ L 8 = true ∧ L 10 = true ∧ L 11 = true ∧ L 12 = true ∧ L 14 = true ∧ L 15 = true) ∧ (L 17 = true → L 0 = true ∧ L 1 = true ∧ L 2 = true ∧ L 3 = true ∧ L 4 = true ∧ L 8 = true ∧ L 9 = true ∧ L 10 = true ∧ L 11 = true ∧ L 12 = true ∧ L 14 = true ∧ L 15 = true ∧ L 16 = true) ∧ (L 18 = true → L 17 = true) ∧ (L 19 = true → L 0 = true ∧ L 1 = true ∧ L 2 = true ∧ L 3 = true ∧ L 4 = true ∧ L 5 = true ∧ L 6 = true ∧ L 7 = true ∧ L 8 = true ∧ L 9 = true ∧ L 10 = true ∧ L 11 = true ∧ L 12 = true ∧ L 13 = true ∧ L 14 = true ∧ L 15 = true ∧ L 16 = true ∧ L 17 = true ∧ L 18 = true) ∧ (if L 19 = true then (∃ gb, Sep w0 w' (stC gs g1 g2 :: om g1 (n1 + 1) (mup h (q : Int) gb) :: nm g2 (n2 + 1) (mup m d (q : Int)) :: (R ++ [.cells gb 120 [.string d, .int .i64 1]]))) else (if L 17 = true then (∃ (gb : Nat) (v0 : Value) (st : Nat) (es1 : Array MapEntry) (cl1 : Nat), x56 = .tuple #[v0, .int .i64 (st : Int)] ∧ Stored Try.prog 80 9 Value.string ienc g2 n2 m d st es1 cl1 ∧ Sep w0 w' (stC gs g1 g2 :: om g1 (n1 + 1) (mup h (q : Int) gb) :: .obj g2 (.map es1 cl1) :: (R ++ [.cells gb 120 [.string d, .int .i64 1]]))) else (if L 16 = true then (∃ gb, Sep w0 w' (stC gs g1 g2 :: om g1 (n1 + 1) (mup h (q : Int) gb) :: nm g2 n2 m :: (R ++ [.cells gb 120 [.string d, .int .i64 1]]))) else (if L 12 = true then (if L 14 = true then (∃ (gb : Nat) (v0 : Value) (st : Nat) (es1 : Array MapEntry) (cl1 : Nat), x52 = .pointer (some ⟨gb, 0, none⟩) ∧ x54 = .tuple #[v0, .int .i64 (st : Int)] ∧ Stored Try.prog 79 3 (Value.int .i64) oenc g1 n1 h (q : Int) st es1 cl1 ∧ Sep w0 w' (stC gs g1 g2 :: .obj g1 (.map es1 cl1) :: nm g2 n2 m :: (R ++ [.cells gb 120 [.string d, .int .i64 1]]))) else (∃ gb, x52 = .pointer (some ⟨gb, 0, none⟩) ∧ Sep w0 w' (stC gs g1 g2 :: om g1 n1 h :: nm g2 n2 m :: (R ++ [.cells gb 120 [.string d, .int .i64 1]])))) else (if L 14 = true then (∃ (v0 : Value) (st : Nat) (es1 : Array MapEntry) (cl1 : Nat), x54 = .tuple #[v0, .int .i64 (st : Int)] ∧ Stored Try.prog 79 3 (Value.int .i64) oenc g1 n1 h (q : Int) st es1 cl1 ∧ Sep w0 w' (stC gs g1 g2 :: .obj g1 (.map es1 cl1) :: nm g2 n2 m :: R)) else Sep w0 w' (stC gs g1 g2 :: om g1 n1 h :: nm g2 n2 m :: R))))))) rfl (by kernel_rfl) ?_ ?_ ?_
      · simp only [turn, List.foldl_cons, List.foldl_nil, List.setIfInBounds_toArray, List.set_cons_succ, List.set_cons_zero]
        exact ⟨_, _, _, _, _, _, _, _, _, _, _, _, _, _, _, _, _, _, rfl, (fun h => absurd h (by decide)), (fun h => absurd h (by decide)), (fun h => absurd h (by decide)), (fun h => absurd h (by decide)), (fun h => absurd h (by decide)), (fun h => absurd h (by decide)), (fun h => absurd h (by decide)), (fun h => absurd h (by decide)), (fun h => absurd h (by decide)), (fun h => absurd h (by decide)), (fun h => absurd h (by decide)), (fun h => absurd h (by decide)), (fun h => absurd h (by decide)), (fun h => absurd h (by decide)), (fun h => absurd h (by decide)), (fun h => absurd h (by decide)), (fun h => absurd h (by decide)), (fun h => absurd h (by decide)), (fun h => absurd h (by decide)), (fun h => absurd h (by decide)), (fun h => absurd h (by decide)), (fun h => absurd h (by decide)), (fun h => absurd h (by decide)), (fun h => absurd h (by decide)), (fun h => absurd h (by decide)), (fun h => absurd h (by decide)), (fun h => absurd h (by decide)), (fun h => absurd h (by decide)), (fun h => absurd h (by decide)), by simpa using HS.out.drew⟩
      · rintro L ac w' i o ⟨x40, x41, x42, x43, x44, x45, x46, x47, x48, x49, x50, x51, x52, x53, x54, x55, x56, x57, ha, p0, p1, p2, p3, p4, p5, p6, p7, p8, p9, p10, p11, p13, p15, p18, q1, q2, q3, q6, q7, q8, q11, q12, q14, q15, q16, q17, q18, q19, hS⟩ ho hi he
        simp only [turn, List.foldl_cons, List.foldl_nil, List.setIfInBounds_toArray, List.set_cons_succ, List.set_cons_zero] at ha ⊢
        subst ha
        rcases i with _|_|_|_|_|_|_|_|_|_|_|_|_|_|_|_|_|_|_|_|i
        all_goals cases ho
        all_goals simp [Region.binds] at he
        · have h1 : L 1 = false := by cases hh : L 1 with | false => rfl | true => (have hq := q1 hh; simp [hi] at hq)
          have h16 : L 16 = false := by cases hh : L 16 with | false => rfl | true => (have hq := q16 hh; simp [hi] at hq)
          have h17 : L 17 = false := by cases hh : L 17 with | false => rfl | true => (have hq := q17 hh; simp [hi] at hq)
          have h19 : L 19 = false := by cases hh : L 19 with | false => rfl | true => (have hq := q19 hh; simp [hi] at hq)
          have h2 : L 2 = false := by cases hh : L 2 with | false => rfl | true => (have hq := q2 hh; simp [h1] at hq)
          have h18 : L 18 = false := by cases hh : L 18 with | false => rfl | true => (have hq := q18 hh; simp [h17] at hq)
          have h3 : L 3 = false := by cases hh : L 3 with | false => rfl | true => (have hq := q3 hh; simp [h2] at hq)
          have h14 : L 14 = false := by cases hh : L 14 with | false => rfl | true => (have hq := q14 hh; simp [h3] at hq)
          have h15 : L 15 = false := by cases hh : L 15 with | false => rfl | true => (have hq := q15 hh; simp [h14] at hq)
          refine wpOp_step rfl (fun K hK => ?_)
          go_simp
          exact hK _ _ ⟨_, _, _, _, _, _, _, _, _, _, _, _, _, _, _, _, _, _, rfl, (fun _ => rfl), (by simp [h1]), (by simp [h2]), (by simp [h3]), (by first | exact p4 | exact fun _ => rfl), (by first | exact p5 | exact fun _ => rfl), (by first | exact p6 | exact fun _ => rfl), (by first | exact p7 | exact fun _ => rfl), (by first | exact p8 | exact fun _ => rfl), (by first | exact p9 | exact fun _ => rfl), (by first | exact p10 | exact fun _ => rfl), (by first | exact p11 | exact fun _ => rfl), (by first | exact p13 | exact fun _ => rfl), (by simp [h15]), (by simp [h18]), (by simp [h1]), (by simp [h2]), (by simp [h3]), (by simpa using q6), (by simpa using q7), (by simpa using q8), (by simpa using q11), (by simpa using q12), (by simp [h14]), (by simp [h15]), (by simp [h16]), (by simp [h17]), (by simp [h18]), (by simp [h19]), (by simpa [h1, h16, h17, h19, h2, h18, h3, h14, h15] using hS)⟩
        · have h2 : L 2 = false := by cases hh : L 2 with | false => rfl | true => (have hq := q2 hh; simp [hi] at hq)
          have h16 : L 16 = false := by cases hh : L 16 with | false => rfl | true => (have hq := q16 hh; simp [hi] at hq)
          have h17 : L 17 = false := by cases hh : L 17 with | false => rfl | true => (have hq := q17 hh; simp [hi] at hq)
          have h19 : L 19 = false := by cases hh : L 19 with | false => rfl | true => (have hq := q19 hh; simp [hi] at hq)
          have h3 : L 3 = false := by cases hh : L 3 with | false => rfl | true => (have hq := q3 hh; simp [h2] at hq)
          have h18 : L 18 = false := by cases hh : L 18 with | false => rfl | true => (have hq := q18 hh; simp [h17] at hq)
          have h14 : L 14 = false := by cases hh : L 14 with | false => rfl | true => (have hq := q14 hh; simp [h3] at hq)
          have h15 : L 15 = false := by cases hh : L 15 with | false => rfl | true => (have hq := q15 hh; simp [h14] at hq)
          obtain rfl := p0 (by simp [he])
          refine wpOp_step rfl (fun K hK => ?_)
          go_simp
          exact hK _ _ ⟨_, _, _, _, _, _, _, _, _, _, _, _, _, _, _, _, _, _, rfl, (by first | exact p0 | exact fun _ => rfl), (fun _ => rfl), (by simp [h2]), (by simp [h3]), (by first | exact p4 | exact fun _ => rfl), (by first | exact p5 | exact fun _ => rfl), (by first | exact p6 | exact fun _ => rfl), (by first | exact p7 | exact fun _ => rfl), (by first | exact p8 | exact fun _ => rfl), (by first | exact p9 | exact fun _ => rfl), (by first | exact p10 | exact fun _ => rfl), (by first | exact p11 | exact fun _ => rfl), (by first | exact p13 | exact fun _ => rfl), (by simp [h15]), (by simp [h18]), (by simp [he]), (by simp [h2]), (by simp [h3]), (by simpa using q6), (by simpa using q7), (by simpa using q8), (by simpa using q11), (by simpa using q12), (by simp [h14]), (by simp [h15]), (by simp [h16]), (by simp [h17]), (by simp [h18]), (by simp [h19]), (by simpa [h2, h16, h17, h19, h3, h18, h14, h15] using hS)⟩
        · have h3 : L 3 = false := by cases hh : L 3 with | false => rfl | true => (have hq := q3 hh; simp [hi] at hq)
          have h16 : L 16 = false := by cases hh : L 16 with | false => rfl | true => (have hq := q16 hh; simp [hi] at hq)
          have h17 : L 17 = false := by cases hh : L 17 with | false => rfl | true => (have hq := q17 hh; simp [hi] at hq)
          have h19 : L 19 = false := by cases hh : L 19 with | false => rfl | true => (have hq := q19 hh; simp [hi] at hq)
          have h14 : L 14 = false := by cases hh : L 14 with | false => rfl | true => (have hq := q14 hh; simp [h3] at hq)
          have h18 : L 18 = false := by cases hh : L 18 with | false => rfl | true => (have hq := q18 hh; simp [h17] at hq)
          have h15 : L 15 = false := by cases hh : L 15 with | false => rfl | true => (have hq := q15 hh; simp [h14] at hq)
          obtain rfl := p1 (by simp [he])
          refine wpOp_step rfl (fun K hK => ?_)
          go_simp
          exact hK _ _ ⟨_, _, _, _, _, _, _, _, _, _, _, _, _, _, _, _, _, _, rfl, (by first | exact p0 | exact fun _ => rfl), (by first | exact p1 | exact fun _ => rfl), (fun _ => rfl), (by simp [h3]), (by first | exact p4 | exact fun _ => rfl), (by first | exact p5 | exact fun _ => rfl), (by first | exact p6 | exact fun _ => rfl), (by first | exact p7 | exact fun _ => rfl), (by first | exact p8 | exact fun _ => rfl), (by first | exact p9 | exact fun _ => rfl), (by first | exact p10 | exact fun _ => rfl), (by first | exact p11 | exact fun _ => rfl), (by first | exact p13 | exact fun _ => rfl), (by simp [h15]), (by simp [h18]), (by simpa using q1), (by simp [he]), (by simp [h3]), (by simpa using q6), (by simpa using q7), (by simpa using q8), (by simpa using q11), (by simpa using q12), (by simp [h14]), (by simp [h15]), (by simp [h16]), (by simp [h17]), (by simp [h18]), (by simp [h19]), (by simpa [h3, h16, h17, h19, h14, h18, h15] using hS)⟩
        · have h14 : L 14 = false := by cases hh : L 14 with | false => rfl | true => (have hq := q14 hh; simp [hi] at hq)
          have h16 : L 16 = false := by cases hh : L 16 with | false => rfl | true => (have hq := q16 hh; simp [hi] at hq)
          have h17 : L 17 = false := by cases hh : L 17 with | false => rfl | true => (have hq := q17 hh; simp [hi] at hq)
          have h19 : L 19 = false := by cases hh : L 19 with | false => rfl | true => (have hq := q19 hh; simp [hi] at hq)
          have h15 : L 15 = false := by cases hh : L 15 with | false => rfl | true => (have hq := q15 hh; simp [h14] at hq)
          have h18 : L 18 = false := by cases hh : L 18 with | false => rfl | true => (have hq := q18 hh; simp [h17] at hq)
          obtain rfl := p2 (by simp [he])
          have f0 : w'.cell? ⟨gs, 0, none⟩ = some (.map (some g1)) := by
            repeat' split at hS
            · exact hS.elim fun _ S => S.cell 0 rfl rfl
            · exact hS.elim fun _ h => h.elim fun _ h => h.elim fun _ h => h.elim fun _ h => h.elim fun _ h => h.2.2.cell 0 rfl rfl
            · exact hS.elim fun _ S => S.cell 0 rfl rfl
            · exact hS.elim fun _ h => h.elim fun _ h => h.elim fun _ h => h.elim fun _ h => h.elim fun _ h => h.2.2.2.cell 0 rfl rfl
            · exact hS.elim fun _ h => h.2.cell 0 rfl rfl
            · exact hS.elim fun _ h => h.elim fun _ h => h.elim fun _ h => h.elim fun _ h => h.2.2.cell 0 rfl rfl
            · exact hS.cell 0 rfl rfl
          refine wpOp_step rfl (fun K hK => ?_)
          go_simp
          exact hK _ _ ⟨_, _, _, _, _, _, _, _, _, _, _, _, _, _, _, _, _, _, rfl, (by first | exact p0 | exact fun _ => rfl), (by first | exact p1 | exact fun _ => rfl), (by first | exact p2 | exact fun _ => rfl), (fun _ => rfl), (by first | exact p4 | exact fun _ => rfl), (by first | exact p5 | exact fun _ => rfl), (by first | exact p6 | exact fun _ => rfl), (by first | exact p7 | exact fun _ => rfl), (by first | exact p8 | exact fun _ => rfl), (by first | exact p9 | exact fun _ => rfl), (by first | exact p10 | exact fun _ => rfl), (by first | exact p11 | exact fun _ => rfl), (by first | exact p13 | exact fun _ => rfl), (by simp [h15]), (by simp [h18]), (by simpa using q1), (by simpa using q2), (by simp [he]), (by simpa using q6), (by simpa using q7), (by simpa using q8), (by simpa using q11), (by simpa using q12), (by simp [h14]), (by simp [h15]), (by simp [h16]), (by simp [h17]), (by simp [h18]), (by simp [h19]), (by simpa [h14, h16, h17, h19, h15, h18] using hS)⟩
        · have h14 : L 14 = false := by cases hh : L 14 with | false => rfl | true => (have hq := q14 hh; simp [hi] at hq)
          have h16 : L 16 = false := by cases hh : L 16 with | false => rfl | true => (have hq := q16 hh; simp [hi] at hq)
          have h17 : L 17 = false := by cases hh : L 17 with | false => rfl | true => (have hq := q17 hh; simp [hi] at hq)
          have h19 : L 19 = false := by cases hh : L 19 with | false => rfl | true => (have hq := q19 hh; simp [hi] at hq)
          have h15 : L 15 = false := by cases hh : L 15 with | false => rfl | true => (have hq := q15 hh; simp [h14] at hq)
          have h18 : L 18 = false := by cases hh : L 18 with | false => rfl | true => (have hq := q18 hh; simp [h17] at hq)
          refine wpOp_step rfl (fun K hK => ?_)
          go_simp
          exact hK _ _ ⟨_, _, _, _, _, _, _, _, _, _, _, _, _, _, _, _, _, _, rfl, (by first | exact p0 | exact fun _ => rfl), (by first | exact p1 | exact fun _ => rfl), (by first | exact p2 | exact fun _ => rfl), (by first | exact p3 | exact fun _ => rfl), (fun _ => rfl), (by first | exact p5 | exact fun _ => rfl), (by first | exact p6 | exact fun _ => rfl), (by first | exact p7 | exact fun _ => rfl), (by first | exact p8 | exact fun _ => rfl), (by first | exact p9 | exact fun _ => rfl), (by first | exact p10 | exact fun _ => rfl), (by first | exact p11 | exact fun _ => rfl), (by first | exact p13 | exact fun _ => rfl), (by simp [h15]), (by simp [h18]), (by simpa using q1), (by simpa using q2), (by simpa using q3), (by simpa using q6), (by simpa using q7), (by simpa using q8), (by simpa using q11), (by simpa using q12), (by simp [h14]), (by simp [h15]), (by simp [h16]), (by simp [h17]), (by simp [h18]), (by simp [h19]), (by simpa [h14, h16, h17, h19, h15, h18] using hS)⟩
        · have h6 : L 6 = false := by cases hh : L 6 with | false => rfl | true => (have hq := q6 hh; simp [hi] at hq)
          have h19 : L 19 = false := by cases hh : L 19 with | false => rfl | true => (have hq := q19 hh; simp [hi] at hq)
          have h7 : L 7 = false := by cases hh : L 7 with | false => rfl | true => (have hq := q7 hh; simp [h6] at hq)
          have h8 : L 8 = false := by cases hh : L 8 with | false => rfl | true => (have hq := q8 hh; simp [h7] at hq)
          have h14 : L 14 = false := by cases hh : L 14 with | false => rfl | true => (have hq := q14 hh; simp [h8] at hq)
          have h16 : L 16 = false := by cases hh : L 16 with | false => rfl | true => (have hq := q16 hh; simp [h8] at hq)
          have h17 : L 17 = false := by cases hh : L 17 with | false => rfl | true => (have hq := q17 hh; simp [h8] at hq)
          have h15 : L 15 = false := by cases hh : L 15 with | false => rfl | true => (have hq := q15 hh; simp [h14] at hq)
          have h18 : L 18 = false := by cases hh : L 18 with | false => rfl | true => (have hq := q18 hh; simp [h17] at hq)
          refine wpOp_step rfl (fun K hK => ?_)
          go_simp
          exact hK _ _ ⟨_, _, _, _, _, _, _, _, _, _, _, _, _, _, _, _, _, _, rfl, (by first | exact p0 | exact fun _ => rfl), (by first | exact p1 | exact fun _ => rfl), (by first | exact p2 | exact fun _ => rfl), (by first | exact p3 | exact fun _ => rfl), (by first | exact p4 | exact fun _ => rfl), (fun _ => rfl), (by simp [h6]), (by simp [h7]), (by simp [h8]), (by first | exact p9 | exact fun _ => rfl), (by first | exact p10 | exact fun _ => rfl), (by first | exact p11 | exact fun _ => rfl), (by first | exact p13 | exact fun _ => rfl), (by simp [h15]), (by simp [h18]), (by simpa using q1), (by simpa using q2), (by simpa using q3), (by simp [h6]), (by simp [h7]), (by simp [h8]), (by simpa using q11), (by simpa using q12), (by simp [h14]), (by simp [h15]), (by simp [h16]), (by simp [h17]), (by simp [h18]), (by simp [h19]), (by simpa [h6, h19, h7, h8, h14, h16, h17, h15, h18] using hS)⟩
        · have h7 : L 7 = false := by cases hh : L 7 with | false => rfl | true => (have hq := q7 hh; simp [hi] at hq)
          have h19 : L 19 = false := by cases hh : L 19 with | false => rfl | true => (have hq := q19 hh; simp [hi] at hq)
          have h8 : L 8 = false := by cases hh : L 8 with | false => rfl | true => (have hq := q8 hh; simp [h7] at hq)
          have h14 : L 14 = false := by cases hh : L 14 with | false => rfl | true => (have hq := q14 hh; simp [h8] at hq)
          have h16 : L 16 = false := by cases hh : L 16 with | false => rfl | true => (have hq := q16 hh; simp [h8] at hq)
          have h17 : L 17 = false := by cases hh : L 17 with | false => rfl | true => (have hq := q17 hh; simp [h8] at hq)
          have h15 : L 15 = false := by cases hh : L 15 with | false => rfl | true => (have hq := q15 hh; simp [h14] at hq)
          have h18 : L 18 = false := by cases hh : L 18 with | false => rfl | true => (have hq := q18 hh; simp [h17] at hq)
          obtain rfl := p5 (by simp [he])
          refine wpOp_step rfl (fun K hK => ?_)
          go_simp
          exact hK _ _ ⟨_, _, _, _, _, _, _, _, _, _, _, _, _, _, _, _, _, _, rfl, (by first | exact p0 | exact fun _ => rfl), (by first | exact p1 | exact fun _ => rfl), (by first | exact p2 | exact fun _ => rfl), (by first | exact p3 | exact fun _ => rfl), (by first | exact p4 | exact fun _ => rfl), (by first | exact p5 | exact fun _ => rfl), (fun _ => rfl), (by simp [h7]), (by simp [h8]), (by first | exact p9 | exact fun _ => rfl), (by first | exact p10 | exact fun _ => rfl), (by first | exact p11 | exact fun _ => rfl), (by first | exact p13 | exact fun _ => rfl), (by simp [h15]), (by simp [h18]), (by simpa using q1), (by simpa using q2), (by simpa using q3), (by simp [he]), (by simp [h7]), (by simp [h8]), (by simpa using q11), (by simpa using q12), (by simp [h14]), (by simp [h15]), (by simp [h16]), (by simp [h17]), (by simp [h18]), (by simp [h19]), (by simpa [h7, h19, h8, h14, h16, h17, h15, h18] using hS)⟩
        · have h8 : L 8 = false := by cases hh : L 8 with | false => rfl | true => (have hq := q8 hh; simp [hi] at hq)
          have h19 : L 19 = false := by cases hh : L 19 with | false => rfl | true => (have hq := q19 hh; simp [hi] at hq)
          have h14 : L 14 = false := by cases hh : L 14 with | false => rfl | true => (have hq := q14 hh; simp [h8] at hq)
          have h16 : L 16 = false := by cases hh : L 16 with | false => rfl | true => (have hq := q16 hh; simp [h8] at hq)
          have h17 : L 17 = false := by cases hh : L 17 with | false => rfl | true => (have hq := q17 hh; simp [h8] at hq)
          have h15 : L 15 = false := by cases hh : L 15 with | false => rfl | true => (have hq := q15 hh; simp [h14] at hq)
          have h18 : L 18 = false := by cases hh : L 18 with | false => rfl | true => (have hq := q18 hh; simp [h17] at hq)
          obtain rfl := p6 (by simp [he])
          refine wpOp_step rfl (fun K hK => ?_)
          go_simp
          exact hK _ _ ⟨_, _, _, _, _, _, _, _, _, _, _, _, _, _, _, _, _, _, rfl, (by first | exact p0 | exact fun _ => rfl), (by first | exact p1 | exact fun _ => rfl), (by first | exact p2 | exact fun _ => rfl), (by first | exact p3 | exact fun _ => rfl), (by first | exact p4 | exact fun _ => rfl), (by first | exact p5 | exact fun _ => rfl), (by first | exact p6 | exact fun _ => rfl), (fun _ => rfl), (by simp [h8]), (by first | exact p9 | exact fun _ => rfl), (by first | exact p10 | exact fun _ => rfl), (by first | exact p11 | exact fun _ => rfl), (by first | exact p13 | exact fun _ => rfl), (by simp [h15]), (by simp [h18]), (by simpa using q1), (by simpa using q2), (by simpa using q3), (by simpa using q6), (by simp [he]), (by simp [h8]), (by simpa using q11), (by simpa using q12), (by simp [h14]), (by simp [h15]), (by simp [h16]), (by simp [h17]), (by simp [h18]), (by simp [h19]), (by simpa [h8, h19, h14, h16, h17, h15, h18] using hS)⟩
        · have h14 : L 14 = false := by cases hh : L 14 with | false => rfl | true => (have hq := q14 hh; simp [hi] at hq)
          have h16 : L 16 = false := by cases hh : L 16 with | false => rfl | true => (have hq := q16 hh; simp [hi] at hq)
          have h17 : L 17 = false := by cases hh : L 17 with | false => rfl | true => (have hq := q17 hh; simp [hi] at hq)
          have h19 : L 19 = false := by cases hh : L 19 with | false => rfl | true => (have hq := q19 hh; simp [hi] at hq)
          have h15 : L 15 = false := by cases hh : L 15 with | false => rfl | true => (have hq := q15 hh; simp [h14] at hq)
          have h18 : L 18 = false := by cases hh : L 18 with | false => rfl | true => (have hq := q18 hh; simp [h17] at hq)
          obtain rfl := p7 (by simp [he])
          have f0 : w'.cell? ⟨gs, 1, none⟩ = some (.map (some g2)) := by
            repeat' split at hS
            · exact hS.elim fun _ S => S.cell 0 rfl rfl
            · exact hS.elim fun _ h => h.elim fun _ h => h.elim fun _ h => h.elim fun _ h => h.elim fun _ h => h.2.2.cell 0 rfl rfl
            · exact hS.elim fun _ S => S.cell 0 rfl rfl
            · exact hS.elim fun _ h => h.elim fun _ h => h.elim fun _ h => h.elim fun _ h => h.elim fun _ h => h.2.2.2.cell 0 rfl rfl
            · exact hS.elim fun _ h => h.2.cell 0 rfl rfl
            · exact hS.elim fun _ h => h.elim fun _ h => h.elim fun _ h => h.elim fun _ h => h.2.2.cell 0 rfl rfl
            · exact hS.cell 0 rfl rfl
          refine wpOp_step rfl (fun K hK => ?_)
          go_simp
          exact hK _ _ ⟨_, _, _, _, _, _, _, _, _, _, _, _, _, _, _, _, _, _, rfl, (by first | exact p0 | exact fun _ => rfl), (by first | exact p1 | exact fun _ => rfl), (by first | exact p2 | exact fun _ => rfl), (by first | exact p3 | exact fun _ => rfl), (by first | exact p4 | exact fun _ => rfl), (by first | exact p5 | exact fun _ => rfl), (by first | exact p6 | exact fun _ => rfl), (by first | exact p7 | exact fun _ => rfl), (fun _ => rfl), (by first | exact p9 | exact fun _ => rfl), (by first | exact p10 | exact fun _ => rfl), (by first | exact p11 | exact fun _ => rfl), (by first | exact p13 | exact fun _ => rfl), (by simp [h15]), (by simp [h18]), (by simpa using q1), (by simpa using q2), (by simpa using q3), (by simpa using q6), (by simpa using q7), (by simp [he]), (by simpa using q11), (by simpa using q12), (by simp [h14]), (by simp [h15]), (by simp [h16]), (by simp [h17]), (by simp [h18]), (by simp [h19]), (by simpa [h14, h16, h17, h19, h15, h18] using hS)⟩
        · have h17 : L 17 = false := by cases hh : L 17 with | false => rfl | true => (have hq := q17 hh; simp [hi] at hq)
          have h19 : L 19 = false := by cases hh : L 19 with | false => rfl | true => (have hq := q19 hh; simp [hi] at hq)
          have h18 : L 18 = false := by cases hh : L 18 with | false => rfl | true => (have hq := q18 hh; simp [h17] at hq)
          refine wpOp_step rfl (fun K hK => ?_)
          go_simp
          exact hK _ _ ⟨_, _, _, _, _, _, _, _, _, _, _, _, _, _, _, _, _, _, rfl, (by first | exact p0 | exact fun _ => rfl), (by first | exact p1 | exact fun _ => rfl), (by first | exact p2 | exact fun _ => rfl), (by first | exact p3 | exact fun _ => rfl), (by first | exact p4 | exact fun _ => rfl), (by first | exact p5 | exact fun _ => rfl), (by first | exact p6 | exact fun _ => rfl), (by first | exact p7 | exact fun _ => rfl), (by first | exact p8 | exact fun _ => rfl), (fun _ => rfl), (by first | exact p10 | exact fun _ => rfl), (by first | exact p11 | exact fun _ => rfl), (by first | exact p13 | exact fun _ => rfl), (by first | exact p15 | exact fun _ => rfl), (by simp [h18]), (by simpa using q1), (by simpa using q2), (by simpa using q3), (by simpa using q6), (by simpa using q7), (by simpa using q8), (by simpa using q11), (by simpa using q12), (by simpa using q14), (by simpa using q15), (by simpa using q16), (by simp [h17]), (by simp [h18]), (by simp [h19]), (by simpa [h17, h19, h18] using hS)⟩
        · have h11 : L 11 = false := by cases hh : L 11 with | false => rfl | true => (have hq := q11 hh; simp [hi] at hq)
          have h16 : L 16 = false := by cases hh : L 16 with | false => rfl | true => (have hq := q16 hh; simp [hi] at hq)
          have h17 : L 17 = false := by cases hh : L 17 with | false => rfl | true => (have hq := q17 hh; simp [hi] at hq)
          have h19 : L 19 = false := by cases hh : L 19 with | false => rfl | true => (have hq := q19 hh; simp [hi] at hq)
          have h12 : L 12 = false := by cases hh : L 12 with | false => rfl | true => (have hq := q12 hh; simp [h11] at hq)
          have h18 : L 18 = false := by cases hh : L 18 with | false => rfl | true => (have hq := q18 hh; simp [h17] at hq)
          refine wpOp_step rfl (fun K hK => ?_)
          go_simp
          exact hK _ _ ⟨_, _, _, _, _, _, _, _, _, _, _, _, _, _, _, _, _, _, rfl, (by first | exact p0 | exact fun _ => rfl), (by first | exact p1 | exact fun _ => rfl), (by first | exact p2 | exact fun _ => rfl), (by first | exact p3 | exact fun _ => rfl), (by first | exact p4 | exact fun _ => rfl), (by first | exact p5 | exact fun _ => rfl), (by first | exact p6 | exact fun _ => rfl), (by first | exact p7 | exact fun _ => rfl), (by first | exact p8 | exact fun _ => rfl), (by first | exact p9 | exact fun _ => rfl), (fun _ => rfl), (by simp [h11]), (by first | exact p13 | exact fun _ => rfl), (by first | exact p15 | exact fun _ => rfl), (by simp [h18]), (by simpa using q1), (by simpa using q2), (by simpa using q3), (by simpa using q6), (by simpa using q7), (by simpa using q8), (by simp [h11]), (by simp [h12]), (by simpa using q14), (by simpa using q15), (by simp [h16]), (by simp [h17]), (by simp [h18]), (by simp [h19]), (by simpa [h11, h16, h17, h19, h12, h18] using hS)⟩
        · have h12 : L 12 = false := by cases hh : L 12 with | false => rfl | true => (have hq := q12 hh; simp [hi] at hq)
          have h16 : L 16 = false := by cases hh : L 16 with | false => rfl | true => (have hq := q16 hh; simp [hi] at hq)
          have h17 : L 17 = false := by cases hh : L 17 with | false => rfl | true => (have hq := q17 hh; simp [hi] at hq)
          have h19 : L 19 = false := by cases hh : L 19 with | false => rfl | true => (have hq := q19 hh; simp [hi] at hq)
          have h18 : L 18 = false := by cases hh : L 18 with | false => rfl | true => (have hq := q18 hh; simp [h17] at hq)
          obtain rfl := p10 (by simp [he])
          refine wpOp_step rfl (fun K hK => ?_)
          go_simp
          exact hK _ _ ⟨_, _, _, _, _, _, _, _, _, _, _, _, _, _, _, _, _, _, rfl, (by first | exact p0 | exact fun _ => rfl), (by first | exact p1 | exact fun _ => rfl), (by first | exact p2 | exact fun _ => rfl), (by first | exact p3 | exact fun _ => rfl), (by first | exact p4 | exact fun _ => rfl), (by first | exact p5 | exact fun _ => rfl), (by first | exact p6 | exact fun _ => rfl), (by first | exact p7 | exact fun _ => rfl), (by first | exact p8 | exact fun _ => rfl), (by first | exact p9 | exact fun _ => rfl), (by first | exact p10 | exact fun _ => rfl), (fun _ => rfl), (by first | exact p13 | exact fun _ => rfl), (by first | exact p15 | exact fun _ => rfl), (by simp [h18]), (by simpa using q1), (by simpa using q2), (by simpa using q3), (by simpa using q6), (by simpa using q7), (by simpa using q8), (by simp [he]), (by simp [h12]), (by simpa using q14), (by simpa using q15), (by simp [h16]), (by simp [h17]), (by simp [h18]), (by simp [h19]), (by simpa [h12, h16, h17, h19, h18] using hS)⟩
        · have h16 : L 16 = false := by cases hh : L 16 with | false => rfl | true => (have hq := q16 hh; simp [hi] at hq)
          have h17 : L 17 = false := by cases hh : L 17 with | false => rfl | true => (have hq := q17 hh; simp [hi] at hq)
          have h19 : L 19 = false := by cases hh : L 19 with | false => rfl | true => (have hq := q19 hh; simp [hi] at hq)
          have h18 : L 18 = false := by cases hh : L 18 with | false => rfl | true => (have hq := q18 hh; simp [h17] at hq)
          obtain rfl := p11 (by simp [he])
          by_cases hj : L 14 = true
          · rw [if_neg (by simp [h19]), if_neg (by simp [h17]), if_neg (by simp [h16]), if_neg (by simp [hi]), if_pos hj] at hS
            obtain ⟨v0, st, es1, cl1, rfl, hst, hS⟩ := hS
            have hN := hS.new 120 [.string d, .int .i64 1]
            refine wpOp_step rfl (fun K hK => ?_)
            go_simp
            exact hK _ _ ⟨_, _, _, _, _, _, _, _, _, _, _, _, _, _, _, _, _, _, rfl, (by first | exact p0 | exact fun _ => rfl), (by first | exact p1 | exact fun _ => rfl), (by first | exact p2 | exact fun _ => rfl), (by first | exact p3 | exact fun _ => rfl), (by first | exact p4 | exact fun _ => rfl), (by first | exact p5 | exact fun _ => rfl), (by first | exact p6 | exact fun _ => rfl), (by first | exact p7 | exact fun _ => rfl), (by first | exact p8 | exact fun _ => rfl), (by first | exact p9 | exact fun _ => rfl), (by first | exact p10 | exact fun _ => rfl), (by first | exact p11 | exact fun _ => rfl), (by first | exact p13 | exact fun _ => rfl), (by first | exact p15 | exact fun _ => rfl), (by simp [h18]), (by simpa using q1), (by simpa using q2), (by simpa using q3), (by simpa using q6), (by simpa using q7), (by simpa using q8), (by simpa using q11), (by simp [he]), (by simpa using q14), (by simpa using q15), (by simp [h16]), (by simp [h17]), (by simp [h18]), (by simp [h19]), (by rw [if_neg (by simp [h19]), if_neg (by simp [h17]), if_neg (by simp [h16]), if_pos (by simp), if_pos (by simpa using hj)]; exact ⟨_, _, _, _, _, rfl, rfl, hst, hN⟩)⟩
          · rw [if_neg (by simp [h19]), if_neg (by simp [h17]), if_neg (by simp [h16]), if_neg (by simp [hi]), if_neg hj] at hS
            have hN := hS.new 120 [.string d, .int .i64 1]
            refine wpOp_step rfl (fun K hK => ?_)
            go_simp
            exact hK _ _ ⟨_, _, _, _, _, _, _, _, _, _, _, _, _, _, _, _, _, _, rfl, (by first | exact p0 | exact fun _ => rfl), (by first | exact p1 | exact fun _ => rfl), (by first | exact p2 | exact fun _ => rfl), (by first | exact p3 | exact fun _ => rfl), (by first | exact p4 | exact fun _ => rfl), (by first | exact p5 | exact fun _ => rfl), (by first | exact p6 | exact fun _ => rfl), (by first | exact p7 | exact fun _ => rfl), (by first | exact p8 | exact fun _ => rfl), (by first | exact p9 | exact fun _ => rfl), (by first | exact p10 | exact fun _ => rfl), (by first | exact p11 | exact fun _ => rfl), (by first | exact p13 | exact fun _ => rfl), (by first | exact p15 | exact fun _ => rfl), (by simp [h18]), (by simpa using q1), (by simpa using q2), (by simpa using q3), (by simpa using q6), (by simpa using q7), (by simpa using q8), (by simpa using q11), (by simp [he]), (by simpa using q14), (by simpa using q15), (by simp [h16]), (by simp [h17]), (by simp [h18]), (by simp [h19]), (by rw [if_neg (by simp [h19]), if_neg (by simp [h17]), if_neg (by simp [h16]), if_pos (by simp), if_neg (by simpa using hj)]; exact ⟨_, rfl, hN⟩)⟩
        · have h19 : L 19 = false := by cases hh : L 19 with | false => rfl | true => (have hq := q19 hh; simp [hi] at hq)
          refine wpOp_step rfl (fun K hK => ?_)
          go_simp
          exact hK _ _ ⟨_, _, _, _, _, _, _, _, _, _, _, _, _, _, _, _, _, _, rfl, (by first | exact p0 | exact fun _ => rfl), (by first | exact p1 | exact fun _ => rfl), (by first | exact p2 | exact fun _ => rfl), (by first | exact p3 | exact fun _ => rfl), (by first | exact p4 | exact fun _ => rfl), (by first | exact p5 | exact fun _ => rfl), (by first | exact p6 | exact fun _ => rfl), (by first | exact p7 | exact fun _ => rfl), (by first | exact p8 | exact fun _ => rfl), (by first | exact p9 | exact fun _ => rfl), (by first | exact p10 | exact fun _ => rfl), (by first | exact p11 | exact fun _ => rfl), (fun _ => rfl), (by first | exact p15 | exact fun _ => rfl), (by first | exact p18 | exact fun _ => rfl), (by simpa using q1), (by simpa using q2), (by simpa using q3), (by simpa using q6), (by simpa using q7), (by simpa using q8), (by simpa using q11), (by simpa using q12), (by simpa using q14), (by simpa using q15), (by simpa using q16), (by simpa using q17), (by simpa using q18), (by simp [h19]), (by simpa [h19] using hS)⟩
        · have h15 : L 15 = false := by cases hh : L 15 with | false => rfl | true => (have hq := q15 hh; simp [hi] at hq)
          have h16 : L 16 = false := by cases hh : L 16 with | false => rfl | true => (have hq := q16 hh; simp [hi] at hq)
          have h17 : L 17 = false := by cases hh : L 17 with | false => rfl | true => (have hq := q17 hh; simp [hi] at hq)
          have h19 : L 19 = false := by cases hh : L 19 with | false => rfl | true => (have hq := q19 hh; simp [hi] at hq)
          have h18 : L 18 = false := by cases hh : L 18 with | false => rfl | true => (have hq := q18 hh; simp [h17] at hq)
          obtain rfl := p3 (by simp [he])
          obtain rfl := p4 (by simp [he])
          by_cases hj : L 12 = true
          · rw [if_neg (by simp [h19]), if_neg (by simp [h17]), if_neg (by simp [h16]), if_pos hj, if_neg (by simp [hi])] at hS
            obtain ⟨gb, rfl, hS⟩ := hS
            obtain ⟨v0, st, es1, cl1, w5, hrun, _, hsz, hN, hst⟩ := hS.entry 1 rfl kint HQW.out Try.underlying79 hn1 oz
            refine wpOp_step rfl (fun K hK => ?_)
            go_simp
            exact hK _ _ ⟨_, _, _, _, _, _, _, _, _, _, _, _, _, _, _, _, _, _, rfl, (by first | exact p0 | exact fun _ => rfl), (by first | exact p1 | exact fun _ => rfl), (by first | exact p2 | exact fun _ => rfl), (by first | exact p3 | exact fun _ => rfl), (by first | exact p4 | exact fun _ => rfl), (by first | exact p5 | exact fun _ => rfl), (by first | exact p6 | exact fun _ => rfl), (by first | exact p7 | exact fun _ => rfl), (by first | exact p8 | exact fun _ => rfl), (by first | exact p9 | exact fun _ => rfl), (by first | exact p10 | exact fun _ => rfl), (by first | exact p11 | exact fun _ => rfl), (by first | exact p13 | exact fun _ => rfl), (by simp [h15]), (by simp [h18]), (by simpa using q1), (by simpa using q2), (by simpa using q3), (by simpa using q6), (by simpa using q7), (by simpa using q8), (by simpa using q11), (by simpa using q12), (by simp [he]), (by simp [h15]), (by simp [h16]), (by simp [h17]), (by simp [h18]), (by simp [h19]), (by rw [if_neg (by simp [h19]), if_neg (by simp [h17]), if_neg (by simp [h16]), if_pos (by simpa using hj), if_pos (by simp)]; exact ⟨_, _, _, _, _, rfl, rfl, hst, hN⟩)⟩
          · rw [if_neg (by simp [h19]), if_neg (by simp [h17]), if_neg (by simp [h16]), if_neg hj, if_neg (by simp [hi])] at hS
            obtain ⟨v0, st, es1, cl1, w5, hrun, _, hsz, hN, hst⟩ := hS.entry 1 rfl kint HQW.out Try.underlying79 hn1 oz
            refine wpOp_step rfl (fun K hK => ?_)
            go_simp
            exact hK _ _ ⟨_, _, _, _, _, _, _, _, _, _, _, _, _, _, _, _, _, _, rfl, (by first | exact p0 | exact fun _ => rfl), (by first | exact p1 | exact fun _ => rfl), (by first | exact p2 | exact fun _ => rfl), (by first | exact p3 | exact fun _ => rfl), (by first | exact p4 | exact fun _ => rfl), (by first | exact p5 | exact fun _ => rfl), (by first | exact p6 | exact fun _ => rfl), (by first | exact p7 | exact fun _ => rfl), (by first | exact p8 | exact fun _ => rfl), (by first | exact p9 | exact fun _ => rfl), (by first | exact p10 | exact fun _ => rfl), (by first | exact p11 | exact fun _ => rfl), (by first | exact p13 | exact fun _ => rfl), (by simp [h15]), (by simp [h18]), (by simpa using q1), (by simpa using q2), (by simpa using q3), (by simpa using q6), (by simpa using q7), (by simpa using q8), (by simpa using q11), (by simpa using q12), (by simp [he]), (by simp [h15]), (by simp [h16]), (by simp [h17]), (by simp [h18]), (by simp [h19]), (by rw [if_neg (by simp [h19]), if_neg (by simp [h17]), if_neg (by simp [h16]), if_neg (by simpa using hj), if_pos (by simp)]; exact ⟨_, _, _, _, rfl, hst, hN⟩)⟩
        · have h16 : L 16 = false := by cases hh : L 16 with | false => rfl | true => (have hq := q16 hh; simp [hi] at hq)
          have h17 : L 17 = false := by cases hh : L 17 with | false => rfl | true => (have hq := q17 hh; simp [hi] at hq)
          have h19 : L 19 = false := by cases hh : L 19 with | false => rfl | true => (have hq := q19 hh; simp [hi] at hq)
          have h18 : L 18 = false := by cases hh : L 18 with | false => rfl | true => (have hq := q18 hh; simp [h17] at hq)
          obtain ⟨v0, st, e54⟩ : ∃ (v0 : Value) (st : Nat), x54 = .tuple #[v0, .int .i64 st] := by
            rw [if_neg (by simp [h19]), if_neg (by simp [h17]), if_neg (by simp [h16])] at hS
            by_cases hl : L 12 = true
            · rw [if_pos hl, if_pos (by simp [he])] at hS
              obtain ⟨gb, v0, st, es1, cl1, _, e, _⟩ := hS
              exact ⟨v0, _, e⟩
            · rw [if_neg hl, if_pos (by simp [he])] at hS
              obtain ⟨v0, st, es1, cl1, e, _⟩ := hS
              exact ⟨v0, _, e⟩
          subst e54
          refine wpOp_step rfl (fun K hK => ?_)
          go_simp
          exact hK _ _ ⟨_, _, _, _, _, _, _, _, _, _, _, _, _, _, _, _, _, _, rfl, (by first | exact p0 | exact fun _ => rfl), (by first | exact p1 | exact fun _ => rfl), (by first | exact p2 | exact fun _ => rfl), (by first | exact p3 | exact fun _ => rfl), (by first | exact p4 | exact fun _ => rfl), (by first | exact p5 | exact fun _ => rfl), (by first | exact p6 | exact fun _ => rfl), (by first | exact p7 | exact fun _ => rfl), (by first | exact p8 | exact fun _ => rfl), (by first | exact p9 | exact fun _ => rfl), (by first | exact p10 | exact fun _ => rfl), (by first | exact p11 | exact fun _ => rfl), (by first | exact p13 | exact fun _ => rfl), (fun _ => rfl), (by simp [h18]), (by simpa using q1), (by simpa using q2), (by simpa using q3), (by simpa using q6), (by simpa using q7), (by simpa using q8), (by simpa using q11), (by simpa using q12), (by simpa using q14), (by simp [he]), (by simp [h16]), (by simp [h17]), (by simp [h18]), (by simp [h19]), (by simpa [h16, h17, h19, h18] using hS)⟩
        · have h17 : L 17 = false := by cases hh : L 17 with | false => rfl | true => (have hq := q17 hh; simp [hi] at hq)
          have h19 : L 19 = false := by cases hh : L 19 with | false => rfl | true => (have hq := q19 hh; simp [hi] at hq)
          have h18 : L 18 = false := by cases hh : L 18 with | false => rfl | true => (have hq := q18 hh; simp [h17] at hq)
          obtain rfl := p3 (by simp [he])
          obtain rfl := p15 (by simp [he])
          have t12 : L 12 = true := by simp [he]
          have t14 : L 14 = true := by simp [he]
          rw [if_neg (by simp [h19]), if_neg (by simp [h17]), if_neg (by simp [hi]), if_pos t12, if_pos t14] at hS
          obtain ⟨gb, v0, st, es1, cl1, rfl, rfl, hst, hS⟩ := hS
          simp only [sndOf_mk]
          obtain ⟨w5, hrun, hsz, hN⟩ := hst gb w' _ 1 _ hS rfl
          rw [if_neg (by rw [HNO.out]; simp)] at hN
          unfold oenc at hrun
          refine wpOp_step rfl (fun K hK => ?_)
          go_simp
          exact hK _ _ ⟨_, _, _, _, _, _, _, _, _, _, _, _, _, _, _, _, _, _, rfl, (by first | exact p0 | exact fun _ => rfl), (by first | exact p1 | exact fun _ => rfl), (by first | exact p2 | exact fun _ => rfl), (by first | exact p3 | exact fun _ => rfl), (by first | exact p4 | exact fun _ => rfl), (by first | exact p5 | exact fun _ => rfl), (by first | exact p6 | exact fun _ => rfl), (by first | exact p7 | exact fun _ => rfl), (by first | exact p8 | exact fun _ => rfl), (by first | exact p9 | exact fun _ => rfl), (by first | exact p10 | exact fun _ => rfl), (by first | exact p11 | exact fun _ => rfl), (by first | exact p13 | exact fun _ => rfl), (by first | exact p15 | exact fun _ => rfl), (by simp [h18]), (by simpa using q1), (by simpa using q2), (by simpa using q3), (by simpa using q6), (by simpa using q7), (by simpa using q8), (by simpa using q11), (by simpa using q12), (by simpa using q14), (by simpa using q15), (by simp [he]), (by simp [h17]), (by simp [h18]), (by simp [h19]), (by rw [if_neg (by simp [h19]), if_neg (by simp [h17]), if_pos (by simp)]; exact ⟨_, hN⟩)⟩
        · have h18 : L 18 = false := by cases hh : L 18 with | false => rfl | true => (have hq := q18 hh; simp [hi] at hq)
          have h19 : L 19 = false := by cases hh : L 19 with | false => rfl | true => (have hq := q19 hh; simp [hi] at hq)
          obtain rfl := p8 (by simp [he])
          obtain rfl := p9 (by simp [he])
          have t12 : L 12 = true := by simp [he]
          have t14 : L 14 = true := by simp [he]
          have t16 : L 16 = true := by simp [he]
          rw [if_neg (by simp [h19]), if_neg (by simp [hi]), if_pos t16] at hS
          obtain ⟨gb, hS⟩ := hS
          obtain ⟨v0, st, es1, cl1, w5, hrun, _, hsz, hN, hst⟩ := hS.entry 2 rfl kstr HD.out Try.underlying80 hn2 iz
          refine wpOp_step rfl (fun K hK => ?_)
          go_simp
          exact hK _ _ ⟨_, _, _, _, _, _, _, _, _, _, _, _, _, _, _, _, _, _, rfl, (by first | exact p0 | exact fun _ => rfl), (by first | exact p1 | exact fun _ => rfl), (by first | exact p2 | exact fun _ => rfl), (by first | exact p3 | exact fun _ => rfl), (by first | exact p4 | exact fun _ => rfl), (by first | exact p5 | exact fun _ => rfl), (by first | exact p6 | exact fun _ => rfl), (by first | exact p7 | exact fun _ => rfl), (by first | exact p8 | exact fun _ => rfl), (by first | exact p9 | exact fun _ => rfl), (by first | exact p10 | exact fun _ => rfl), (by first | exact p11 | exact fun _ => rfl), (by first | exact p13 | exact fun _ => rfl), (by first | exact p15 | exact fun _ => rfl), (by simp [h18]), (by simpa using q1), (by simpa using q2), (by simpa using q3), (by simpa using q6), (by simpa using q7), (by simpa using q8), (by simpa using q11), (by simpa using q12), (by simpa using q14), (by simpa using q15), (by simpa using q16), (by simp [he]), (by simp [h18]), (by simp [h19]), (by rw [if_neg (by simp [h19]), if_pos (by simp)]; exact ⟨_, _, _, _, _, rfl, hst, hN⟩)⟩
        · have h19 : L 19 = false := by cases hh : L 19 with | false => rfl | true => (have hq := q19 hh; simp [hi] at hq)
          obtain ⟨v0, st, e56⟩ : ∃ (v0 : Value) (st : Nat), x56 = .tuple #[v0, .int .i64 st] := by
            rw [if_neg (by simp [h19]), if_pos (by simp [he])] at hS
            obtain ⟨gb, v0, st, es1, cl1, e, _⟩ := hS
            exact ⟨v0, _, e⟩
          subst e56
          refine wpOp_step rfl (fun K hK => ?_)
          go_simp
          exact hK _ _ ⟨_, _, _, _, _, _, _, _, _, _, _, _, _, _, _, _, _, _, rfl, (by first | exact p0 | exact fun _ => rfl), (by first | exact p1 | exact fun _ => rfl), (by first | exact p2 | exact fun _ => rfl), (by first | exact p3 | exact fun _ => rfl), (by first | exact p4 | exact fun _ => rfl), (by first | exact p5 | exact fun _ => rfl), (by first | exact p6 | exact fun _ => rfl), (by first | exact p7 | exact fun _ => rfl), (by first | exact p8 | exact fun _ => rfl), (by first | exact p9 | exact fun _ => rfl), (by first | exact p10 | exact fun _ => rfl), (by first | exact p11 | exact fun _ => rfl), (by first | exact p13 | exact fun _ => rfl), (by first | exact p15 | exact fun _ => rfl), (fun _ => rfl), (by simpa using q1), (by simpa using q2), (by simpa using q3), (by simpa using q6), (by simpa using q7), (by simpa using q8), (by simpa using q11), (by simpa using q12), (by simpa using q14), (by simpa using q15), (by simpa using q16), (by simpa using q17), (by simp [he]), (by simp [h19]), (by simpa [h19] using hS)⟩
        · obtain rfl := p8 (by simp [he])
          obtain rfl := p18 (by simp [he])
          obtain rfl := p13 (by simp [he])
          have t12 : L 12 = true := by simp [he]
          have t14 : L 14 = true := by simp [he]
          have t16 : L 16 = true := by simp [he]
          have t17 : L 17 = true := by simp [he]
          rw [if_neg (by simp [hi]), if_pos t17] at hS
          obtain ⟨gb, v0, st, es1, cl1, rfl, hst, hS⟩ := hS
          simp only [sndOf_mk]
          obtain ⟨w5, hrun, hsz, hN⟩ := hst (q : Int) w' _ 2 _ hS rfl
          rw [if_neg (by rw [HM.out]; simp)] at hN
          unfold ienc at hrun
          refine wpOp_step rfl (fun K hK => ?_)
          go_simp
          exact hK _ _ ⟨_, _, _, _, _, _, _, _, _, _, _, _, _, _, _, _, _, _, rfl, (by first | exact p0 | exact fun _ => rfl), (by first | exact p1 | exact fun _ => rfl), (by first | exact p2 | exact fun _ => rfl), (by first | exact p3 | exact fun _ => rfl), (by first | exact p4 | exact fun _ => rfl), (by first | exact p5 | exact fun _ => rfl), (by first | exact p6 | exact fun _ => rfl), (by first | exact p7 | exact fun _ => rfl), (by first | exact p8 | exact fun _ => rfl), (by first | exact p9 | exact fun _ => rfl), (by first | exact p10 | exact fun _ => rfl), (by first | exact p11 | exact fun _ => rfl), (by first | exact p13 | exact fun _ => rfl), (by first | exact p15 | exact fun _ => rfl), (by first | exact p18 | exact fun _ => rfl), (by simpa using q1), (by simpa using q2), (by simpa using q3), (by simpa using q6), (by simpa using q7), (by simpa using q8), (by simpa using q11), (by simpa using q12), (by simpa using q14), (by simpa using q15), (by simpa using q16), (by simpa using q17), (by simpa using q18), (by simp [he]), (by rw [if_pos (by simp)]; exact ⟨_, hN⟩)⟩
      · rintro L ac w' ⟨x40, x41, x42, x43, x44, x45, x46, x47, x48, x49, x50, x51, x52, x53, x54, x55, x56, x57, ha, p0, p1, p2, p3, p4, p5, p6, p7, p8, p9, p10, p11, p13, p15, p18, q1, q2, q3, q6, q7, q8, q11, q12, q14, q15, q16, q17, q18, q19, hS⟩ hall
        have t12 := hall 12 (by decide)
        have t14 := hall 14 (by decide)
        have t16 := hall 16 (by decide)
        have t17 := hall 17 (by decide)
        have t19 := hall 19 (by decide)
        rw [if_pos t19] at hS
        obtain ⟨gb, hS⟩ := hS
        obtain rfl := p0 (hall 0 (by decide))
        obtain rfl := p1 (hall 1 (by decide))
        obtain rfl := p2 (hall 2 (by decide))
        obtain rfl := p3 (hall 3 (by decide))
        obtain rfl := p4 (hall 4 (by decide))
        obtain rfl := p5 (hall 5 (by decide))
        obtain rfl := p6 (hall 6 (by decide))
        obtain rfl := p7 (hall 7 (by decide))
        obtain rfl := p8 (hall 8 (by decide))
        obtain rfl := p9 (hall 9 (by decide))
        obtain rfl := p10 (hall 10 (by decide))
        obtain rfl := p11 (hall 11 (by decide))
        obtain rfl := p13 (hall 13 (by decide))
        obtain rfl := p15 (hall 15 (by decide))
        obtain rfl := p18 (hall 18 (by decide))
        simp only [turn, List.foldl_cons, List.foldl_nil, List.setIfInBounds_toArray, List.set_cons_succ, List.set_cons_zero] at ha
        subst ha
        clear q1 q2 q3 q6 q7 q8 q11 q12 q14 q15 q16 q17 q18 q19  t12 t14 t16 t17 t19
        have HS9 := Lib.hid hS
        clear hS
        go_wp2
        go_ret
        exact ⟨rfl, gb, HS9.out⟩
end Dd
end Go.Proofs.Ytmbkonhclniolaa
