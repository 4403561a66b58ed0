/-
  Walk of ftl's step. Conditions: none beyond the theorem's own premises.
-/
import Derived.Test.YtfljbiobiobamaaFtW5
namespace Go.Proofs.Ytfljbiobiobamaa
open Go.RowKit
set_option linter.unusedVariables false
namespace Ft
open Nd (B Rt RtB)

def O.cells (o : O) : List Value := [.int .i64 o.kind, .int .i64 o.n, .int .i64 o.data]
/-- what comes of an operation: error, data, what each number has then -/
inductive Way (has : Int → Option Int) : O → Int → Int → (Int → Option Int) → Prop
  | kind {k n d : Int} (h : k < 1 ∨ 3 < k) : Way has ⟨k, n, d⟩ 5 0 has
  | range {k n d : Int} (h0 : 1 ≤ k) (h1 : k ≤ 3) (h : n < 0 ∨ 16 ≤ n) : Way has ⟨k, n, d⟩ 2 0 has
  | write {d : Int} {n : Nat} (hn : n < 16) : Way has ⟨1, n, d⟩ 0 0 (mup has (n : Int) d)
  | none {k : Int} {n : Nat} {d : Int} (hn : n < 16) (hk : k = 2 ∨ k = 3) (hh : has (n : Int) = .none) : Way has ⟨k, n, d⟩ 3 0 has
  | read {d : Int} {n : Nat} {z : Int} (hn : n < 16) (hh : has (n : Int) = some z) : Way has ⟨2, n, d⟩ 0 z has
  | trim {d : Int} {n : Nat} {z : Int} (hn : n < 16) (hh : has (n : Int) = some z) : Way has ⟨3, n, d⟩ 0 0 (mdel has (n : Int))
theorem way_ex (has : Int → Option Int) (o : O) : ∃ e d has', Way has o e d has' := by
  obtain ⟨k, n, d⟩ := o
  by_cases h : k < 1 ∨ 3 < k
  · exact ⟨_, _, _, .kind h⟩
  by_cases hn : n < 0 ∨ 16 ≤ n
  · exact ⟨_, _, _, .range (by omega) (by omega) hn⟩
  obtain ⟨m, rfl⟩ := Int.eq_ofNat_of_zero_le (show 0 ≤ n by omega)
  have hm : m < 16 := by omega
  by_cases h1 : k = 1
  · subst h1
    exact ⟨_, _, _, .write hm⟩
  cases hh : has (m : Int) with
  | none => exact ⟨_, _, _, .none hm (by omega) hh⟩
  | some z =>
    by_cases h2 : k = 2
    · subst h2
      exact ⟨_, _, _, .read hm hh⟩
    · obtain rfl : k = 3 := by omega
      exact ⟨_, _, _, .trim hm hh⟩
def StepRet (w0 : World) (gd go ga : Nat) (has' : Int → Option Int) (W : Nat) (R : List It) (e d : Int) (en : Ending) (w' : World) : Prop :=
  en = .returned (.agg #[.int .i64 e, .int .i64 d]) ∧ Is w0 gd go ga has' W R w'
theorem Good.mono {fl : List B} {hd : Nat} {ow : S → Option Int} {at_ : Int → Option S} {has : Int → Option Int} {W W' : Nat} (G : Good fl hd ow at_ has W) (h : W ≤ W') : Good fl hd ow at_ has W' := ⟨G.inv.mono h, G.h8, G.blank⟩
theorem Good.trim {fl : List B} {hd : Nat} {ow : S → Option Int} {at_ : Int → Option S} {has : Int → Option Int} {W : Nat} (G : Good fl hd ow at_ has W) (n : Int) : Good fl hd ow (mdel at_ n) (mdel has n) W := ⟨G.inv.trim n, G.h8, G.blank⟩

set_option maxRecDepth 100000 in
set_option maxHeartbeats 12800000 in
theorem step_any (gd go ga W : Nat) (o : O) (e d : Int) (has has' : Int → Option Int) (R : List It) (w0 w : World) (hs : Is w0 gd go ga has W R w) (hw : Way has o e d has') (hwf : (Lit.int .i64 o.n).wf = true) (hW : W + 5 < 1048576) :
    Calls Try.prog 32 #[.pointer (some ⟨gd, 0, none⟩), .agg #[.int .i64 o.kind, .int .i64 o.n, .int .i64 o.data]] w (StepRet w0 gd go ga has' (W + 5) R e d) := by
  obtain ⟨ok, on, od⟩ := o
  obtain ⟨fl, hd, ow, at_, hst, hg⟩ := hs
  obtain ⟨gf, c, no, na, hc, H0⟩ := (hst.boxed 93 [.int .i64 ok, .int .i64 on, .int .i64 od]).boxed 46 [.int .i64 0, .int .i64 0]
  have HB : Hid (Sep w0 ((w.alloc (.cells #[.int .i64 ok, .int .i64 on, .int .i64 od] 93)).alloc (.cells #[.int .i64 0, .int .i64 0] 46)) (dI gd (.slice (some ⟨gf, 0, none⟩) 8 c) hd go ga :: flI (some ⟨gf, 0, none⟩) c fl :: owI go no ow :: atI ga na at_ :: .cells (w.heap.size + 1) 46 [.int .i64 0, .int .i64 0] :: .cells w.heap.size 93 [.int .i64 ok, .int .i64 on, .int .i64 od] :: R)) := Lib.hid (by simpa using H0)
  have HC := Lib.hid hc
  have HG := Lib.hid hg
  have HG5 := Lib.hid (hg.mono (show W ≤ W + 5 by omega))
  have HWAY := Lib.hid hw
  have HBIG := Lib.hid hW
  obtain ⟨s0, th, hth, HAT⟩ : ∃ (s0 : S) (th : Bool), ((at_ on).elim (.agg #[.int .i64 0, .int .i64 0]) smk = .agg #[.int .i64 (s0.b : Int), .int .i64 (s0.p : Int)] ∧ (at_ on).isSome = th) ∧ Hid (at_ on = if th then some s0 else none) := by
    cases h : at_ on with
    | none => exact ⟨⟨0, 0⟩, false, ⟨rfl, rfl⟩, Lib.hid rfl⟩
    | some s0 => exact ⟨s0, true, ⟨rfl, rfl⟩, Lib.hid rfl⟩
  have HLK : Hid (∀ W' R', Sep w0 W' (dI gd (.slice (some ⟨gf, 0, none⟩) 8 c) hd go ga :: flI (some ⟨gf, 0, none⟩) c fl :: owI go no ow :: atI ga na at_ :: R') → (Instr.lookup 89 (.map (some ga)) (.int .i64 on) true).run Try.prog W' = .ok (.tuple #[.agg #[.int .i64 (s0.b : Int), .int .i64 (s0.p : Int)], .bool th]) W') := Lib.hid (fun W' R' H => by
    have := H.look2 3 rfl kint hwf Try.underlying89 (sz W')
    rw [hth.1, hth.2] at this
    exact this)
  clear hst H0 hc hg hw hwf hW hth
  go_enter Try.func32, Try.ntmps32
  go_upto_region 1 with (fail)
  generalize (w.alloc (.cells #[.int .i64 ok, .int .i64 on, .int .i64 od] 93)).alloc (.cells #[.int .i64 0, .int .i64 0] 46) = wo at HB ⊢
  generalize w.heap.size + 1 = gr at HB ⊢
  generalize w.heap.size = gx at HB ⊢
  refine wp_region_inv0 (fun ac0 L ac w' => ∃ x5 x6 x7 x8 x9 x10 x11 x12 x13 x14 x15 x16, ac = turn ac0 [(5, x5), (6, x6), (7, x7), (8, x8), (9, x9), (10, x10), (11, x11), (12, x12), (13, x13), (14, x14), (15, x15), (16, x16)] ∧ (L 0 = true → x8 = .pointer (some ⟨gd, 0, none⟩)) ∧ (L 1 = true → x9 = .pointer (some ⟨gd, 0, none⟩)) ∧ (L 2 = true → x10 = .pointer (some ⟨gd, 3, none⟩)) ∧ (L 3 = true → x11 = .map (some ga)) ∧ (L 4 = true → x12 = .pointer (some ⟨gx, 1, none⟩)) ∧ (L 5 = true → x13 = .int .i64 on) ∧ (L 6 = true → x14 = .tuple #[.agg #[.int .i64 (s0.b : Int), .int .i64 (s0.p : Int)], .bool th]) ∧ (L 7 = true → x7 = .tuple #[.agg #[.int .i64 (s0.b : Int), .int .i64 (s0.p : Int)], .bool th]) ∧ (L 8 = true → x15 = .agg #[.int .i64 (s0.b : Int), .int .i64 (s0.p : Int)]) ∧ (L 9 = true → x16 = .bool th) ∧ (L 12 = true → x6 = .bool th) ∧ (L 1 = true → L 0 = true) ∧ (L 2 = true → L 1 = true) ∧ (L 3 = true → L 2 = true) ∧ (L 5 = true → L 4 = true) ∧ (L 6 = true → L 3 = true ∧ L 5 = true) ∧ (L 7 = true → L 6 = true) ∧ (L 8 = true → L 7 = true) ∧ (L 9 = true → L 7 = true) ∧ (L 11 = true → L 0 = true ∧ L 1 = true ∧ L 2 = true ∧ L 3 = true ∧ L 4 = true ∧ L 5 = true ∧ L 6 = true ∧ L 7 = true ∧ L 8 = true ∧ L 10 = true) ∧ (L 12 = true → L 0 = true ∧ L 1 = true ∧ L 2 = true ∧ L 3 = true ∧ L 4 = true ∧ L 5 = true ∧ L 6 = true ∧ L 7 = true ∧ L 8 = true ∧ L 9 = true ∧ L 10 = true ∧ L 11 = true) ∧ (if L 11 = true then (∃ gs, x5 = .pointer (some ⟨gs, 0, none⟩) ∧ Sep w0 w' (dI gd (.slice (some ⟨gf, 0, none⟩) 8 c) hd go ga :: flI (some ⟨gf, 0, none⟩) c fl :: owI go no ow :: atI ga na at_ :: .cells gr 46 [.int .i64 0, .int .i64 0] :: .cells gx 93 [.int .i64 ok, .int .i64 on, .int .i64 od] :: .cells gs 119 [.int .i64 (s0.b : Int), .int .i64 (s0.p : Int)] :: R)) else (if L 10 = true then (∃ gs, x5 = .pointer (some ⟨gs, 0, none⟩) ∧ Sep w0 w' (dI gd (.slice (some ⟨gf, 0, none⟩) 8 c) hd go ga :: flI (some ⟨gf, 0, none⟩) c fl :: owI go no ow :: atI ga na at_ :: .cells gr 46 [.int .i64 0, .int .i64 0] :: .cells gx 93 [.int .i64 ok, .int .i64 on, .int .i64 od] :: .cells gs 119 [.int .i64 0, .int .i64 0] :: R)) else Sep w0 w' (dI gd (.slice (some ⟨gf, 0, none⟩) 8 c) hd go ga :: flI (some ⟨gf, 0, none⟩) c fl :: owI go no ow :: atI ga na at_ :: .cells gr 46 [.int .i64 0, .int .i64 0] :: .cells gx 93 [.int .i64 ok, .int .i64 on, .int .i64 od] :: R)))) rfl (by kernel_rfl) ?_ ?_ ?_
  · simp only [turn, List.foldl_cons, List.foldl_nil, List.setIfInBounds_toArray, List.set_cons_succ, List.set_cons_zero]
    exact ⟨_, _, _, _, _, _, _, _, _, _, _, _, rfl, (fun h => absurd h (by decide)), (fun h => absurd h (by decide)), (fun h => absurd h (by decide)), (fun h => absurd h (by decide)), (fun h => absurd h (by decide)), (fun h => absurd h (by decide)), (fun h => absurd h (by decide)), (fun h => absurd h (by decide)), (fun h => absurd h (by decide)), (fun h => absurd h (by decide)), (fun h => absurd h (by decide)), (fun h => absurd h (by decide)), (fun h => absurd h (by decide)), (fun h => absurd h (by decide)), (fun h => absurd h (by decide)), (fun h => absurd h (by decide)), (fun h => absurd h (by decide)), (fun h => absurd h (by decide)), (fun h => absurd h (by decide)), (fun h => absurd h (by decide)), (fun h => absurd h (by decide)), by simpa using HB.out.drew⟩
  · rintro L ac w' i o ⟨x5, x6, x7, x8, x9, x10, x11, x12, x13, x14, x15, x16, ha, p0, p1, p2, p3, p4, p5, p6, p7, p8, p9, p12, q1, q2, q3, q5, q6, q7, q8, q9, q11, q12, hS⟩ ho hi he
    simp only [turn, List.foldl_cons, List.foldl_nil, List.setIfInBounds_toArray, List.set_cons_succ, List.set_cons_zero] at ha ⊢
    subst ha
    rcases i with _|_|_|_|_|_|_|_|_|_|_|_|_|i
    all_goals cases ho
    all_goals simp [Region.binds] at he
    · have h1 : L 1 = false := by cases hh : L 1 with | false => rfl | true => (have hq := q1 hh; simp [hi] at hq)
      have h11 : L 11 = false := by cases hh : L 11 with | false => rfl | true => (have hq := q11 hh; simp [hi] at hq)
      have h12 : L 12 = false := by cases hh : L 12 with | false => rfl | true => (have hq := q12 hh; simp [hi] at hq)
      have h2 : L 2 = false := by cases hh : L 2 with | false => rfl | true => (have hq := q2 hh; simp [h1] at hq)
      have h3 : L 3 = false := by cases hh : L 3 with | false => rfl | true => (have hq := q3 hh; simp [h2] at hq)
      have h6 : L 6 = false := by cases hh : L 6 with | false => rfl | true => (have hq := q6 hh; simp [h3] at hq)
      have h7 : L 7 = false := by cases hh : L 7 with | false => rfl | true => (have hq := q7 hh; simp [h6] at hq)
      have h8 : L 8 = false := by cases hh : L 8 with | false => rfl | true => (have hq := q8 hh; simp [h7] at hq)
      have h9 : L 9 = false := by cases hh : L 9 with | false => rfl | true => (have hq := q9 hh; simp [h7] at hq)
      refine wpOp_step rfl (fun K hK => ?_)
      go_simp
      exact hK _ _ ⟨_, _, _, _, _, _, _, _, _, _, _, _, rfl, (fun _ => rfl), (by simp [h1]), (by simp [h2]), (by simp [h3]), (by first | exact p4 | exact fun _ => rfl), (by first | exact p5 | exact fun _ => rfl), (by simp [h6]), (by simp [h7]), (by simp [h8]), (by simp [h9]), (by simp [h12]), (by simp [h1]), (by simp [h2]), (by simp [h3]), (by simpa using q5), (by simp [h6]), (by simp [h7]), (by simp [h8]), (by simp [h9]), (by simp [h11]), (by simp [h12]), (by simpa [h1, h11, h12, h2, h3, h6, h7, h8, h9] using hS)⟩
    · have h2 : L 2 = false := by cases hh : L 2 with | false => rfl | true => (have hq := q2 hh; simp [hi] at hq)
      have h11 : L 11 = false := by cases hh : L 11 with | false => rfl | true => (have hq := q11 hh; simp [hi] at hq)
      have h12 : L 12 = false := by cases hh : L 12 with | false => rfl | true => (have hq := q12 hh; simp [hi] at hq)
      have h3 : L 3 = false := by cases hh : L 3 with | false => rfl | true => (have hq := q3 hh; simp [h2] at hq)
      have h6 : L 6 = false := by cases hh : L 6 with | false => rfl | true => (have hq := q6 hh; simp [h3] at hq)
      have h7 : L 7 = false := by cases hh : L 7 with | false => rfl | true => (have hq := q7 hh; simp [h6] at hq)
      have h8 : L 8 = false := by cases hh : L 8 with | false => rfl | true => (have hq := q8 hh; simp [h7] at hq)
      have h9 : L 9 = false := by cases hh : L 9 with | false => rfl | true => (have hq := q9 hh; simp [h7] at hq)
      obtain rfl := p0 (by simp [he])
      refine wpOp_step rfl (fun K hK => ?_)
      go_simp
      exact hK _ _ ⟨_, _, _, _, _, _, _, _, _, _, _, _, rfl, (by first | exact p0 | exact fun _ => rfl), (fun _ => rfl), (by simp [h2]), (by simp [h3]), (by first | exact p4 | exact fun _ => rfl), (by first | exact p5 | exact fun _ => rfl), (by simp [h6]), (by simp [h7]), (by simp [h8]), (by simp [h9]), (by simp [h12]), (by simp [he]), (by simp [h2]), (by simp [h3]), (by simpa using q5), (by simp [h6]), (by simp [h7]), (by simp [h8]), (by simp [h9]), (by simp [h11]), (by simp [h12]), (by simpa [h2, h11, h12, h3, h6, h7, h8, h9] using hS)⟩
    · have h3 : L 3 = false := by cases hh : L 3 with | false => rfl | true => (have hq := q3 hh; simp [hi] at hq)
      have h11 : L 11 = false := by cases hh : L 11 with | false => rfl | true => (have hq := q11 hh; simp [hi] at hq)
      have h12 : L 12 = false := by cases hh : L 12 with | false => rfl | true => (have hq := q12 hh; simp [hi] at hq)
      have h6 : L 6 = false := by cases hh : L 6 with | false => rfl | true => (have hq := q6 hh; simp [h3] at hq)
      have h7 : L 7 = false := by cases hh : L 7 with | false => rfl | true => (have hq := q7 hh; simp [h6] at hq)
      have h8 : L 8 = false := by cases hh : L 8 with | false => rfl | true => (have hq := q8 hh; simp [h7] at hq)
      have h9 : L 9 = false := by cases hh : L 9 with | false => rfl | true => (have hq := q9 hh; simp [h7] at hq)
      obtain rfl := p1 (by simp [he])
      refine wpOp_step rfl (fun K hK => ?_)
      go_simp
      exact hK _ _ ⟨_, _, _, _, _, _, _, _, _, _, _, _, rfl, (by first | exact p0 | exact fun _ => rfl), (by first | exact p1 | exact fun _ => rfl), (fun _ => rfl), (by simp [h3]), (by first | exact p4 | exact fun _ => rfl), (by first | exact p5 | exact fun _ => rfl), (by simp [h6]), (by simp [h7]), (by simp [h8]), (by simp [h9]), (by simp [h12]), (by simpa using q1), (by simp [he]), (by simp [h3]), (by simpa using q5), (by simp [h6]), (by simp [h7]), (by simp [h8]), (by simp [h9]), (by simp [h11]), (by simp [h12]), (by simpa [h3, h11, h12, h6, h7, h8, h9] using hS)⟩
    · have h6 : L 6 = false := by cases hh : L 6 with | false => rfl | true => (have hq := q6 hh; simp [hi] at hq)
      have h11 : L 11 = false := by cases hh : L 11 with | false => rfl | true => (have hq := q11 hh; simp [hi] at hq)
      have h12 : L 12 = false := by cases hh : L 12 with | false => rfl | true => (have hq := q12 hh; simp [hi] at hq)
      have h7 : L 7 = false := by cases hh : L 7 with | false => rfl | true => (have hq := q7 hh; simp [h6] at hq)
      have h8 : L 8 = false := by cases hh : L 8 with | false => rfl | true => (have hq := q8 hh; simp [h7] at hq)
      have h9 : L 9 = false := by cases hh : L 9 with | false => rfl | true => (have hq := q9 hh; simp [h7] at hq)
      obtain rfl := p2 (by simp [he])
      have f0 : w'.cell? ⟨gd, 3, none⟩ = some (.map (some ga)) := by
        rw [if_neg (by simp [h11])] at hS
        split at hS
        · obtain ⟨gs, _, S⟩ := hS
          exact S.cell 0 rfl rfl
        · exact hS.cell 0 rfl rfl
      refine wpOp_step rfl (fun K hK => ?_)
      go_simp
      exact hK _ _ ⟨_, _, _, _, _, _, _, _, _, _, _, _, rfl, (by first | exact p0 | exact fun _ => rfl), (by first | exact p1 | exact fun _ => rfl), (by first | exact p2 | exact fun _ => rfl), (fun _ => rfl), (by first | exact p4 | exact fun _ => rfl), (by first | exact p5 | exact fun _ => rfl), (by simp [h6]), (by simp [h7]), (by simp [h8]), (by simp [h9]), (by simp [h12]), (by simpa using q1), (by simpa using q2), (by simp [he]), (by simpa using q5), (by simp [h6]), (by simp [h7]), (by simp [h8]), (by simp [h9]), (by simp [h11]), (by simp [h12]), (by simpa [h6, h11, h12, h7, h8, h9] using hS)⟩
    · have h5 : L 5 = false := by cases hh : L 5 with | false => rfl | true => (have hq := q5 hh; simp [hi] at hq)
      have h11 : L 11 = false := by cases hh : L 11 with | false => rfl | true => (have hq := q11 hh; simp [hi] at hq)
      have h12 : L 12 = false := by cases hh : L 12 with | false => rfl | true => (have hq := q12 hh; simp [hi] at hq)
      have h6 : L 6 = false := by cases hh : L 6 with | false => rfl | true => (have hq := q6 hh; simp [h5] at hq)
      have h7 : L 7 = false := by cases hh : L 7 with | false => rfl | true => (have hq := q7 hh; simp [h6] at hq)
      have h8 : L 8 = false := by cases hh : L 8 with | false => rfl | true => (have hq := q8 hh; simp [h7] at hq)
      have h9 : L 9 = false := by cases hh : L 9 with | false => rfl | true => (have hq := q9 hh; simp [h7] at hq)
      refine wpOp_step rfl (fun K hK => ?_)
      go_simp
      exact hK _ _ ⟨_, _, _, _, _, _, _, _, _, _, _, _, rfl, (by first | exact p0 | exact fun _ => rfl), (by first | exact p1 | exact fun _ => rfl), (by first | exact p2 | exact fun _ => rfl), (by first | exact p3 | exact fun _ => rfl), (fun _ => rfl), (by simp [h5]), (by simp [h6]), (by simp [h7]), (by simp [h8]), (by simp [h9]), (by simp [h12]), (by simpa using q1), (by simpa using q2), (by simpa using q3), (by simp [h5]), (by simp [h6]), (by simp [h7]), (by simp [h8]), (by simp [h9]), (by simp [h11]), (by simp [h12]), (by simpa [h5, h11, h12, h6, h7, h8, h9] using hS)⟩
    · have h6 : L 6 = false := by cases hh : L 6 with | false => rfl | true => (have hq := q6 hh; simp [hi] at hq)
      have h11 : L 11 = false := by cases hh : L 11 with | false => rfl | true => (have hq := q11 hh; simp [hi] at hq)
      have h12 : L 12 = false := by cases hh : L 12 with | false => rfl | true => (have hq := q12 hh; simp [hi] at hq)
      have h7 : L 7 = false := by cases hh : L 7 with | false => rfl | true => (have hq := q7 hh; simp [h6] at hq)
      have h8 : L 8 = false := by cases hh : L 8 with | false => rfl | true => (have hq := q8 hh; simp [h7] at hq)
      have h9 : L 9 = false := by cases hh : L 9 with | false => rfl | true => (have hq := q9 hh; simp [h7] at hq)
      obtain rfl := p4 (by simp [he])
      have f0 : w'.cell? ⟨gx, 1, none⟩ = some (.int .i64 on) := by
        rw [if_neg (by simp [h11])] at hS
        split at hS
        · obtain ⟨gs, _, S⟩ := hS
          exact S.cell 5 rfl rfl
        · exact hS.cell 5 rfl rfl
      refine wpOp_step rfl (fun K hK => ?_)
      go_simp
      exact hK _ _ ⟨_, _, _, _, _, _, _, _, _, _, _, _, rfl, (by first | exact p0 | exact fun _ => rfl), (by first | exact p1 | exact fun _ => rfl), (by first | exact p2 | exact fun _ => rfl), (by first | exact p3 | exact fun _ => rfl), (by first | exact p4 | exact fun _ => rfl), (fun _ => rfl), (by simp [h6]), (by simp [h7]), (by simp [h8]), (by simp [h9]), (by simp [h12]), (by simpa using q1), (by simpa using q2), (by simpa using q3), (by simp [he]), (by simp [h6]), (by simp [h7]), (by simp [h8]), (by simp [h9]), (by simp [h11]), (by simp [h12]), (by simpa [h6, h11, h12, h7, h8, h9] using hS)⟩
    · have h7 : L 7 = false := by cases hh : L 7 with | false => rfl | true => (have hq := q7 hh; simp [hi] at hq)
      have h11 : L 11 = false := by cases hh : L 11 with | false => rfl | true => (have hq := q11 hh; simp [hi] at hq)
      have h12 : L 12 = false := by cases hh : L 12 with | false => rfl | true => (have hq := q12 hh; simp [hi] at hq)
      have h8 : L 8 = false := by cases hh : L 8 with | false => rfl | true => (have hq := q8 hh; simp [h7] at hq)
      have h9 : L 9 = false := by cases hh : L 9 with | false => rfl | true => (have hq := q9 hh; simp [h7] at hq)
      obtain rfl := p3 (by simp [he])
      obtain rfl := p5 (by simp [he])
      have l1 : (Instr.lookup 89 (.map (some ga)) (.int .i64 on) true).run Try.prog w' = .ok (.tuple #[.agg #[.int .i64 (s0.b : Int), .int .i64 (s0.p : Int)], .bool th]) w' := by
        rw [if_neg (by simp [h11])] at hS
        split at hS
        · obtain ⟨gs, _, S⟩ := hS
          exact HLK.out _ _ S
        · exact HLK.out _ _ hS
      refine wpOp_step rfl (fun K hK => ?_)
      go_simp
      exact hK _ _ ⟨_, _, _, _, _, _, _, _, _, _, _, _, rfl, (by first | exact p0 | exact fun _ => rfl), (by first | exact p1 | exact fun _ => rfl), (by first | exact p2 | exact fun _ => rfl), (by first | exact p3 | exact fun _ => rfl), (by first | exact p4 | exact fun _ => rfl), (by first | exact p5 | exact fun _ => rfl), (fun _ => rfl), (by simp [h7]), (by simp [h8]), (by simp [h9]), (by simp [h12]), (by simpa using q1), (by simpa using q2), (by simpa using q3), (by simpa using q5), (by simp [he]), (by simp [h7]), (by simp [h8]), (by simp [h9]), (by simp [h11]), (by simp [h12]), (by simpa [h7, h11, h12, h8, h9] using hS)⟩
    · have h8 : L 8 = false := by cases hh : L 8 with | false => rfl | true => (have hq := q8 hh; simp [hi] at hq)
      have h9 : L 9 = false := by cases hh : L 9 with | false => rfl | true => (have hq := q9 hh; simp [hi] at hq)
      have h11 : L 11 = false := by cases hh : L 11 with | false => rfl | true => (have hq := q11 hh; simp [hi] at hq)
      have h12 : L 12 = false := by cases hh : L 12 with | false => rfl | true => (have hq := q12 hh; simp [hi] at hq)
      obtain rfl := p6 (by simp [he])
      refine wpOp_step rfl (fun K hK => ?_)
      go_simp
      exact hK _ _ ⟨_, _, _, _, _, _, _, _, _, _, _, _, rfl, (by first | exact p0 | exact fun _ => rfl), (by first | exact p1 | exact fun _ => rfl), (by first | exact p2 | exact fun _ => rfl), (by first | exact p3 | exact fun _ => rfl), (by first | exact p4 | exact fun _ => rfl), (by first | exact p5 | exact fun _ => rfl), (by first | exact p6 | exact fun _ => rfl), (fun _ => rfl), (by simp [h8]), (by simp [h9]), (by simp [h12]), (by simpa using q1), (by simpa using q2), (by simpa using q3), (by simpa using q5), (by simpa using q6), (by simp [he]), (by simp [h8]), (by simp [h9]), (by simp [h11]), (by simp [h12]), (by simpa [h8, h9, h11, h12] using hS)⟩
    · have h11 : L 11 = false := by cases hh : L 11 with | false => rfl | true => (have hq := q11 hh; simp [hi] at hq)
      have h12 : L 12 = false := by cases hh : L 12 with | false => rfl | true => (have hq := q12 hh; simp [hi] at hq)
      obtain rfl := p7 (by simp [he])
      refine wpOp_step rfl (fun K hK => ?_)
      go_simp
      exact hK _ _ ⟨_, _, _, _, _, _, _, _, _, _, _, _, rfl, (by first | exact p0 | exact fun _ => rfl), (by first | exact p1 | exact fun _ => rfl), (by first | exact p2 | exact fun _ => rfl), (by first | exact p3 | exact fun _ => rfl), (by first | exact p4 | exact fun _ => rfl), (by first | exact p5 | exact fun _ => rfl), (by first | exact p6 | exact fun _ => rfl), (by first | exact p7 | exact fun _ => rfl), (fun _ => rfl), (by first | exact p9 | exact fun _ => rfl), (by simp [h12]), (by simpa using q1), (by simpa using q2), (by simpa using q3), (by simpa using q5), (by simpa using q6), (by simpa using q7), (by simp [he]), (by simpa using q9), (by simp [h11]), (by simp [h12]), (by simpa [h11, h12] using hS)⟩
    · have h12 : L 12 = false := by cases hh : L 12 with | false => rfl | true => (have hq := q12 hh; simp [hi] at hq)
      obtain rfl := p7 (by simp [he])
      refine wpOp_step rfl (fun K hK => ?_)
      go_simp
      exact hK _ _ ⟨_, _, _, _, _, _, _, _, _, _, _, _, rfl, (by first | exact p0 | exact fun _ => rfl), (by first | exact p1 | exact fun _ => rfl), (by first | exact p2 | exact fun _ => rfl), (by first | exact p3 | exact fun _ => rfl), (by first | exact p4 | exact fun _ => rfl), (by first | exact p5 | exact fun _ => rfl), (by first | exact p6 | exact fun _ => rfl), (by first | exact p7 | exact fun _ => rfl), (by first | exact p8 | exact fun _ => rfl), (fun _ => rfl), (by simp [h12]), (by simpa using q1), (by simpa using q2), (by simpa using q3), (by simpa using q5), (by simpa using q6), (by simpa using q7), (by simpa using q8), (by simp [he]), (by simpa using q11), (by simp [h12]), (by simpa [h12] using hS)⟩
    · have h11 : L 11 = false := by cases hh : L 11 with | false => rfl | true => (have hq := q11 hh; simp [hi] at hq)
      have h12 : L 12 = false := by cases hh : L 12 with | false => rfl | true => (have hq := q12 hh; simp [hi] at hq)
      rw [if_neg (by simp [h11]), if_neg (by simp [hi])] at hS
      have hN := (hS.new 119 [.int .i64 0, .int .i64 0]).perm (L' := dI gd (.slice (some ⟨gf, 0, none⟩) 8 c) hd go ga :: flI (some ⟨gf, 0, none⟩) c fl :: owI go no ow :: atI ga na at_ :: .cells gr 46 [.int .i64 0, .int .i64 0] :: .cells gx 93 [.int .i64 ok, .int .i64 on, .int .i64 od] :: .cells w'.heap.size 119 [.int .i64 0, .int .i64 0] :: R) (.cons _ (.cons _ (.cons _ (.cons _ (.cons _ (.cons _ (List.perm_append_comm (l₁ := [It.cells w'.heap.size 119 [.int .i64 0, .int .i64 0]]) (l₂ := R))))))))
      refine wpOp_step rfl (fun K hK => ?_)
      go_simp
      exact hK _ _ ⟨_, _, _, _, _, _, _, _, _, _, _, _, rfl, (by first | exact p0 | exact fun _ => rfl), (by first | exact p1 | exact fun _ => rfl), (by first | exact p2 | exact fun _ => rfl), (by first | exact p3 | exact fun _ => rfl), (by first | exact p4 | exact fun _ => rfl), (by first | exact p5 | exact fun _ => rfl), (by first | exact p6 | exact fun _ => rfl), (by first | exact p7 | exact fun _ => rfl), (by first | exact p8 | exact fun _ => rfl), (by first | exact p9 | exact fun _ => rfl), (by simp [h12]), (by simpa using q1), (by simpa using q2), (by simpa using q3), (by simpa using q5), (by simpa using q6), (by simpa using q7), (by simpa using q8), (by simpa using q9), (by simp [h11]), (by simp [h12]), (by rw [if_neg (by simp [h11]), if_pos (by simp)]; exact ⟨_, rfl, hN⟩)⟩
    · have h12 : L 12 = false := by cases hh : L 12 with | false => rfl | true => (have hq := q12 hh; simp [hi] at hq)
      obtain rfl := p8 (by simp [he])
      have t10 : L 10 = true := by simp [he]
      rw [if_neg (by simp [hi]), if_pos t10] at hS
      obtain ⟨gs, rfl, hS⟩ := hS
      have e0 := hS.cell 6 rfl (k := 0) rfl
      have e1 := hS.cell 6 rfl (k := 1) rfl
      have u0 := hS.froz 6 rfl (k := 0)
      have u1 := hS.froz 6 rfl (k := 1)
      have hN := (hS.set 6 rfl (k := 0) (.int .i64 (s0.b : Int))).set 6 rfl (k := 1) (.int .i64 (s0.p : Int))
      refine wpOp_step rfl (fun K hK => ?_)
      go_simp
      exact hK _ _ ⟨_, _, _, _, _, _, _, _, _, _, _, _, rfl, (by first | exact p0 | exact fun _ => rfl), (by first | exact p1 | exact fun _ => rfl), (by first | exact p2 | exact fun _ => rfl), (by first | exact p3 | exact fun _ => rfl), (by first | exact p4 | exact fun _ => rfl), (by first | exact p5 | exact fun _ => rfl), (by first | exact p6 | exact fun _ => rfl), (by first | exact p7 | exact fun _ => rfl), (by first | exact p8 | exact fun _ => rfl), (by first | exact p9 | exact fun _ => rfl), (by simp [h12]), (by simpa using q1), (by simpa using q2), (by simpa using q3), (by simpa using q5), (by simpa using q6), (by simpa using q7), (by simpa using q8), (by simpa using q9), (by simp [he]), (by simp [h12]), (by rw [if_pos (by simp)]; exact ⟨_, rfl, hN⟩)⟩
    · obtain rfl := p9 (by simp [he])
      refine wpOp_step rfl (fun K hK => ?_)
      go_simp
      exact hK _ _ ⟨_, _, _, _, _, _, _, _, _, _, _, _, rfl, (by first | exact p0 | exact fun _ => rfl), (by first | exact p1 | exact fun _ => rfl), (by first | exact p2 | exact fun _ => rfl), (by first | exact p3 | exact fun _ => rfl), (by first | exact p4 | exact fun _ => rfl), (by first | exact p5 | exact fun _ => rfl), (by first | exact p6 | exact fun _ => rfl), (by first | exact p7 | exact fun _ => rfl), (by first | exact p8 | exact fun _ => rfl), (by first | exact p9 | exact fun _ => rfl), (fun _ => rfl), (by simpa using q1), (by simpa using q2), (by simpa using q3), (by simpa using q5), (by simpa using q6), (by simpa using q7), (by simpa using q8), (by simpa using q9), (by simpa using q11), (by simp [he]), (by simpa using hS)⟩
  · rintro L ac w' ⟨x5, x6, x7, x8, x9, x10, x11, x12, x13, x14, x15, x16, ha, p0, p1, p2, p3, p4, p5, p6, p7, p8, p9, p12, q1, q2, q3, q5, q6, q7, q8, q9, q11, q12, hS⟩ hall
    have t10 := hall 10 (by decide)
    have t11 := hall 11 (by decide)
    rw [if_pos t11] at hS
    obtain ⟨gs, rfl, hS⟩ := hS
    obtain rfl := p0 (hall 0 (by decide))
    obtain rfl := p1 (hall 1 (by decide))
    obtain rfl := p2 (hall 2 (by decide))
    obtain rfl := p3 (hall 3 (by decide))
    obtain rfl := p4 (hall 4 (by decide))
    obtain rfl := p5 (hall 5 (by decide))
    obtain rfl := p6 (hall 6 (by decide))
    obtain rfl := p7 (hall 7 (by decide))
    obtain rfl := p8 (hall 8 (by decide))
    obtain rfl := p9 (hall 9 (by decide))
    obtain rfl := p12 (hall 12 (by decide))
    simp only [turn, List.foldl_cons, List.foldl_nil, List.setIfInBounds_toArray, List.set_cons_succ, List.set_cons_zero] at ha
    subst ha
    clear q1 q2 q3 q5 q6 q7 q8 q9 q11 q12  t10 t11
    have HS := Lib.hid hS
    clear hS HB HLK
    have o0 := HS.out.cell 5 rfl (k := 0) rfl
    have o1 := HS.out.cell 5 rfl (k := 1) rfl
    have o2 := HS.out.cell 5 rfl (k := 2) rfl
    have hw := HWAY.out
    clear HWAY
    cases hw with
    | kind h =>
      have HFIN : Hid (∀ W' L', Sep w0 W' (dI gd (.slice (some ⟨gf, 0, none⟩) 8 c) hd go ga :: flI (some ⟨gf, 0, none⟩) c fl :: owI go no ow :: atI ga na at_ :: L') → L'.drop 3 = R → Is w0 gd go ga has (W + 5) R W') := Lib.hid (fun W' L' H e => ⟨_, _, _, _, ⟨_, _, _, _, HC.out, H.sub (.cons_cons _ (.cons_cons _ (.cons_cons _ (.cons_cons _ (by rw [← e]; exact List.drop_sublist _ _)))))⟩, HG5.out⟩)
      by_cases h0 : ok < 1
      · have e0 := HS.out.cell 4 rfl (k := 0) rfl
        have e1 := HS.out.cell 4 rfl (k := 1) rfl
        have u0 := HS.out.froz 4 rfl (k := 0)
        have u1 := HS.out.froz 4 rfl (k := 1)
        have H9 := Lib.hid ((HS.out.set 4 rfl (k := 0) (.int .i64 5)).set 4 rfl (k := 1) (.int .i64 0))
        have f0 := H9.out.cell 4 rfl (k := 0) rfl
        have f1 := H9.out.cell 4 rfl (k := 1) rfl
        go_wp2
        refine bodyPost_ret (v := .agg #[.int .i64 5, .int .i64 0]) (by simp [results, Try.results32, asAddr, Result.andThen, go_sem, f0, f1]) rfl ?_
        exact ⟨rfl, HFIN.out _ _ H9.out rfl⟩
      · have h3 : 3 < ok := h.resolve_left h0
        clear h
        have e0 := HS.out.cell 4 rfl (k := 0) rfl
        have e1 := HS.out.cell 4 rfl (k := 1) rfl
        have u0 := HS.out.froz 4 rfl (k := 0)
        have u1 := HS.out.froz 4 rfl (k := 1)
        have H9 := Lib.hid ((HS.out.set 4 rfl (k := 0) (.int .i64 5)).set 4 rfl (k := 1) (.int .i64 0))
        have f0 := H9.out.cell 4 rfl (k := 0) rfl
        have f1 := H9.out.cell 4 rfl (k := 1) rfl
        go_wp2
        refine bodyPost_ret (v := .agg #[.int .i64 5, .int .i64 0]) (by simp [results, Try.results32, asAddr, Result.andThen, go_sem, f0, f1]) rfl ?_
        exact ⟨rfl, HFIN.out _ _ H9.out rfl⟩
    | range h0 h1 h =>
      have HFIN : Hid (∀ W' L', Sep w0 W' (dI gd (.slice (some ⟨gf, 0, none⟩) 8 c) hd go ga :: flI (some ⟨gf, 0, none⟩) c fl :: owI go no ow :: atI ga na at_ :: L') → L'.drop 3 = R → Is w0 gd go ga has (W + 5) R W') := Lib.hid (fun W' L' H e => ⟨_, _, _, _, ⟨_, _, _, _, HC.out, H.sub (.cons_cons _ (.cons_cons _ (.cons_cons _ (.cons_cons _ (by rw [← e]; exact List.drop_sublist _ _)))))⟩, HG5.out⟩)
      have k0 : ¬ ok < 1 := by omega
      have k1 : ¬ 3 < ok := by omega
      clear h0 h1
      by_cases h0 : on < 0
      · have e0 := HS.out.cell 4 rfl (k := 0) rfl
        have e1 := HS.out.cell 4 rfl (k := 1) rfl
        have u0 := HS.out.froz 4 rfl (k := 0)
        have u1 := HS.out.froz 4 rfl (k := 1)
        have H9 := Lib.hid ((HS.out.set 4 rfl (k := 0) (.int .i64 2)).set 4 rfl (k := 1) (.int .i64 0))
        have f0 := H9.out.cell 4 rfl (k := 0) rfl
        have f1 := H9.out.cell 4 rfl (k := 1) rfl
        go_wp2
        refine bodyPost_ret (v := .agg #[.int .i64 2, .int .i64 0]) (by simp [results, Try.results32, asAddr, Result.andThen, go_sem, f0, f1]) rfl ?_
        exact ⟨rfl, HFIN.out _ _ H9.out rfl⟩
      · have h3 : 16 ≤ on := h.resolve_left h0
        clear h
        have e0 := HS.out.cell 4 rfl (k := 0) rfl
        have e1 := HS.out.cell 4 rfl (k := 1) rfl
        have u0 := HS.out.froz 4 rfl (k := 0)
        have u1 := HS.out.froz 4 rfl (k := 1)
        have H9 := Lib.hid ((HS.out.set 4 rfl (k := 0) (.int .i64 2)).set 4 rfl (k := 1) (.int .i64 0))
        have f0 := H9.out.cell 4 rfl (k := 0) rfl
        have f1 := H9.out.cell 4 rfl (k := 1) rfl
        go_wp2
        refine bodyPost_ret (v := .agg #[.int .i64 2, .int .i64 0]) (by simp [results, Try.results32, asAddr, Result.andThen, go_sem, f0, f1]) rfl ?_
        exact ⟨rfl, HFIN.out _ _ H9.out rfl⟩
    | @write _ n hn =>
      have k0 : ¬ (n : Int) < 0 := by omega
      have k1 : ¬ 16 ≤ (n : Int) := by omega
      have HIS : Hid (Is w0 gd go ga has W (.cells gr 46 [.int .i64 0, .int .i64 0] :: .cells gx 93 [.int .i64 1, .int .i64 (n : Int), .int .i64 od] :: .cells gs 119 [.int .i64 (s0.b : Int), .int .i64 (s0.p : Int)] :: R) _) := Lib.hid ⟨_, _, _, _, ⟨_, _, _, _, HC.out, HS.out⟩, HG.out⟩
      clear HS HG HC HG5
      go_wp2_with fail
      refine (write_any gd go ga W n od has _ w0 _ HIS.out hn HBIG.out).mono ?_
      rintro en w5 ⟨rfl, fl5, hd5, ow5, at5, ⟨gf5, c5, no5, na5, hc5, H5⟩, hg5⟩
      have HS := Lib.hid H5
      have HC := Lib.hid hc5
      have HG := Lib.hid hg5
      clear H5 hc5 hg5 HIS o0 o1 o2
      have e0 := HS.out.cell 4 rfl (k := 0) rfl
      have e1 := HS.out.cell 4 rfl (k := 1) rfl
      have u0 := HS.out.froz 4 rfl (k := 0)
      have u1 := HS.out.froz 4 rfl (k := 1)
      have H9 := Lib.hid ((HS.out.set 4 rfl (k := 0) (.int .i64 0)).set 4 rfl (k := 1) (.int .i64 0))
      have f0 := H9.out.cell 4 rfl (k := 0) rfl
      have f1 := H9.out.cell 4 rfl (k := 1) rfl
      go_wp2
      refine bodyPost_ret (v := .agg #[.int .i64 0, .int .i64 0]) (by simp [results, Try.results32, asAddr, Result.andThen, go_sem, f0, f1]) rfl ?_
      exact ⟨rfl, _, _, _, _, ⟨_, _, _, _, HC.out, H9.out.sub (.cons_cons _ (.cons_cons _ (.cons_cons _ (.cons_cons _ (.cons _ (.cons _ (.cons _ (.refl _))))))))⟩, HG.out⟩
    | @none _ n _ hn hk hh =>
      have HFIN : Hid (∀ W' L', Sep w0 W' (dI gd (.slice (some ⟨gf, 0, none⟩) 8 c) hd go ga :: flI (some ⟨gf, 0, none⟩) c fl :: owI go no ow :: atI ga na at_ :: L') → L'.drop 3 = R → Is w0 gd go ga has (W + 5) R W') := Lib.hid (fun W' L' H e => ⟨_, _, _, _, ⟨_, _, _, _, HC.out, H.sub (.cons_cons _ (.cons_cons _ (.cons_cons _ (.cons_cons _ (by rw [← e]; exact List.drop_sublist _ _)))))⟩, HG5.out⟩)
      obtain rfl : th = false := by
        cases th with
        | false => rfl
        | true =>
          obtain ⟨_, _, _, _, _, _, _, h9⟩ := HG.out.inv.spot _ _ HAT.out
          rw [hh] at h9
          cases h9
      have k0 : ¬ (n : Int) < 0 := by omega
      have k1 : ¬ 16 ≤ (n : Int) := by omega
      have k2 : ¬ ok < 1 := by omega
      have k3 : ¬ 3 < ok := by omega
      have k4 : (ok == 1) = false := by simp; omega
      clear hk hh hn
      have e0 := HS.out.cell 4 rfl (k := 0) rfl
      have e1 := HS.out.cell 4 rfl (k := 1) rfl
      have u0 := HS.out.froz 4 rfl (k := 0)
      have u1 := HS.out.froz 4 rfl (k := 1)
      have H9 := Lib.hid ((HS.out.set 4 rfl (k := 0) (.int .i64 3)).set 4 rfl (k := 1) (.int .i64 0))
      have f0 := H9.out.cell 4 rfl (k := 0) rfl
      have f1 := H9.out.cell 4 rfl (k := 1) rfl
      go_wp2
      refine bodyPost_ret (v := .agg #[.int .i64 3, .int .i64 0]) (by simp [results, Try.results32, asAddr, Result.andThen, go_sem, f0, f1]) rfl ?_
      exact ⟨rfl, HFIN.out _ _ H9.out rfl⟩
    | @read _ n z hn hh =>
      obtain rfl : th = true := by
        cases th with
        | true => rfl
        | false =>
          have h9 := HG.out.inv.no _ HAT.out
          rw [hh] at h9
          cases h9
      obtain ⟨_, _, _, x, hx, hp, hd', h9⟩ := HG.out.inv.spot _ _ HAT.out
      rw [hh] at h9
      cases h9
      have HX := Lib.hid hx
      have HP := Lib.hid hp
      have HD := Lib.hid hd'
      have k0 : ¬ (n : Int) < 0 := by omega
      have k1 : ¬ 16 ≤ (n : Int) := by omega
      have s0c := HS.out.cell 6 rfl (k := 0) rfl
      have s1c := HS.out.cell 6 rfl (k := 1) rfl
      have HIS : Hid (St w0 _ gd go ga fl hd ow at_ (.cells gr 46 [.int .i64 0, .int .i64 0] :: .cells gx 93 [.int .i64 2, .int .i64 (n : Int), .int .i64 od] :: .cells gs 119 [.int .i64 (s0.b : Int), .int .i64 (s0.p : Int)] :: R)) := Lib.hid ⟨_, _, _, _, HC.out, HS.out⟩
      clear HS HC hx hp hd' hh hn
      go_wp2_with fail
      refine (read_any gd go ga hd W fl x ow at_ has _ s0 w0 _ HIS.out HG.out.inv HX.out HP.out HD.out).mono ?_
      rintro en w5 ⟨rfl, gf5, c5, no5, na5, hc5, H5⟩
      have HS := Lib.hid H5
      have HC := Lib.hid hc5
      clear H5 hc5 HIS o0 o1 o2 s0c s1c
      have e0 := HS.out.cell 4 rfl (k := 0) rfl
      have e1 := HS.out.cell 4 rfl (k := 1) rfl
      have u0 := HS.out.froz 4 rfl (k := 0)
      have u1 := HS.out.froz 4 rfl (k := 1)
      have H9 := Lib.hid ((HS.out.set 4 rfl (k := 0) (.int .i64 0)).set 4 rfl (k := 1) (.int .i64 (x.at s0.p)))
      have f0 := H9.out.cell 4 rfl (k := 0) rfl
      have f1 := H9.out.cell 4 rfl (k := 1) rfl
      go_wp2
      refine bodyPost_ret (v := .agg #[.int .i64 0, .int .i64 (x.at s0.p)]) (by simp [results, Try.results32, asAddr, Result.andThen, go_sem, f0, f1]) rfl ?_
      exact ⟨rfl, _, _, _, _, ⟨_, _, _, _, HC.out, H9.out.sub (.cons_cons _ (.cons_cons _ (.cons_cons _ (.cons_cons _ (.cons _ (.cons _ (.cons _ (.refl _))))))))⟩, HG5.out⟩
    | @trim _ n z hn hh =>
      obtain rfl : th = true := by
        cases th with
        | true => rfl
        | false =>
          have h9 := HG.out.inv.no _ HAT.out
          rw [hh] at h9
          cases h9
      have k0 : ¬ (n : Int) < 0 := by omega
      have k1 : ¬ 16 ≤ (n : Int) := by omega
      have HNW : Hid ((Lit.int .i64 (n : Int)).wf = true) := Lib.hid (wf_small (by omega) (by omega))
      clear hh hn
      go_upto_region 2 with (fail)
      have HFIN : Hid (∀ W' L', Sep w0 W' (dI gd (.slice (some ⟨gf, 0, none⟩) 8 c) hd go ga :: flI (some ⟨gf, 0, none⟩) c fl :: owI go no ow :: atI ga (if (at_ (n : Int)).isSome then na - 1 else na) (mdel at_ (n : Int)) :: L') → L'.drop 3 = R → StepRet w0 gd go ga (mdel has (n : Int)) (W + 5) R 0 0 (.returned (.agg #[.int .i64 0, .int .i64 0])) W') := Lib.hid (fun W' L' H e => ⟨rfl, _, _, _, _, ⟨_, _, _, _, HC.out, H.sub (.cons_cons _ (.cons_cons _ (.cons_cons _ (.cons_cons _ (by rw [← e]; exact List.drop_sublist _ _)))))⟩, HG5.out.trim _⟩)
      have HB : Hid (Sep w0 _ (dI gd (.slice (some ⟨gf, 0, none⟩) 8 c) hd go ga :: flI (some ⟨gf, 0, none⟩) c fl :: owI go no ow :: atI ga na at_ :: .cells gr 46 [.int .i64 0, .int .i64 0] :: .cells gx 93 [.int .i64 3, .int .i64 (n : Int), .int .i64 od] :: .cells gs 119 [.int .i64 (s0.b : Int), .int .i64 (s0.p : Int)] :: R)) := Lib.hid HS.out
      clear HS o0 o1 o2
      generalize hRR : It.cells gs 119 [.int .i64 (s0.b : Int), .int .i64 (s0.p : Int)] :: R = RR at HB
      have HRR := Lib.hid hRR
      clear hRR
      refine wp_region_inv0 (fun ac0 L ac w' => ∃ x17 x18 x19 x20 x21 x22, ac = turn ac0 [(17, x17), (18, x18), (19, x19), (20, x20), (21, x21), (22, x22)] ∧ (L 0 = true → x17 = .pointer (some ⟨gd, 0, none⟩)) ∧ (L 1 = true → x18 = .pointer (some ⟨gd, 0, none⟩)) ∧ (L 2 = true → x19 = .pointer (some ⟨gd, 3, none⟩)) ∧ (L 3 = true → x20 = .map (some ga)) ∧ (L 4 = true → x21 = .pointer (some ⟨gx, 1, none⟩)) ∧ (L 5 = true → x22 = .int .i64 (n : Int)) ∧ (L 1 = true → L 0 = true) ∧ (L 2 = true → L 1 = true) ∧ (L 3 = true → L 2 = true) ∧ (L 5 = true → L 4 = true) ∧ (L 6 = true → L 3 = true ∧ L 5 = true) ∧ (if L 6 = true then (Sep w0 w' (dI gd (.slice (some ⟨gf, 0, none⟩) 8 c) hd go ga :: flI (some ⟨gf, 0, none⟩) c fl :: owI go no ow :: atI ga (if (at_ (n : Int)).isSome then na - 1 else na) (mdel at_ (n : Int)) :: .cells gr 46 [.int .i64 0, .int .i64 0] :: .cells gx 93 [.int .i64 3, .int .i64 (n : Int), .int .i64 od] :: RR)) else Sep w0 w' (dI gd (.slice (some ⟨gf, 0, none⟩) 8 c) hd go ga :: flI (some ⟨gf, 0, none⟩) c fl :: owI go no ow :: atI ga na at_ :: .cells gr 46 [.int .i64 0, .int .i64 0] :: .cells gx 93 [.int .i64 3, .int .i64 (n : Int), .int .i64 od] :: RR))) rfl (by kernel_rfl) ?_ ?_ ?_
      · simp only [turn, List.foldl_cons, List.foldl_nil, List.setIfInBounds_toArray, List.set_cons_succ, List.set_cons_zero]
        exact ⟨_, _, _, _, _, _, rfl, (fun h => absurd h (by decide)), (fun h => absurd h (by decide)), (fun h => absurd h (by decide)), (fun h => absurd h (by decide)), (fun h => absurd h (by decide)), (fun h => absurd h (by decide)), (fun h => absurd h (by decide)), (fun h => absurd h (by decide)), (fun h => absurd h (by decide)), (fun h => absurd h (by decide)), (fun h => absurd h (by decide)), by simpa using HB.out.drew⟩
      · rintro L ac w' i o ⟨x17, x18, x19, x20, x21, x22, ha, p0, p1, p2, p3, p4, p5, q1, q2, q3, q5, q6, hS⟩ ho hi he
        simp only [turn, List.foldl_cons, List.foldl_nil, List.setIfInBounds_toArray, List.set_cons_succ, List.set_cons_zero] at ha ⊢
        subst ha
        rcases i with _|_|_|_|_|_|_|i
        all_goals cases ho
        all_goals simp [Region.binds] at he
        · have h1 : L 1 = false := by cases hh : L 1 with | false => rfl | true => (have hq := q1 hh; simp [hi] at hq)
          have h2 : L 2 = false := by cases hh : L 2 with | false => rfl | true => (have hq := q2 hh; simp [h1] at hq)
          have h3 : L 3 = false := by cases hh : L 3 with | false => rfl | true => (have hq := q3 hh; simp [h2] at hq)
          have h6 : L 6 = false := by cases hh : L 6 with | false => rfl | true => (have hq := q6 hh; simp [h3] at hq)
          refine wpOp_step rfl (fun K hK => ?_)
          go_simp
          exact hK _ _ ⟨_, _, _, _, _, _, rfl, (fun _ => rfl), (by simp [h1]), (by simp [h2]), (by simp [h3]), (by first | exact p4 | exact fun _ => rfl), (by first | exact p5 | exact fun _ => rfl), (by simp [h1]), (by simp [h2]), (by simp [h3]), (by simpa using q5), (by simp [h6]), (by simpa [h1, h2, h3, h6] using hS)⟩
        · have h2 : L 2 = false := by cases hh : L 2 with | false => rfl | true => (have hq := q2 hh; simp [hi] at hq)
          have h3 : L 3 = false := by cases hh : L 3 with | false => rfl | true => (have hq := q3 hh; simp [h2] at hq)
          have h6 : L 6 = false := by cases hh : L 6 with | false => rfl | true => (have hq := q6 hh; simp [h3] at hq)
          obtain rfl := p0 (by simp [he])
          refine wpOp_step rfl (fun K hK => ?_)
          go_simp
          exact hK _ _ ⟨_, _, _, _, _, _, rfl, (by first | exact p0 | exact fun _ => rfl), (fun _ => rfl), (by simp [h2]), (by simp [h3]), (by first | exact p4 | exact fun _ => rfl), (by first | exact p5 | exact fun _ => rfl), (by simp [he]), (by simp [h2]), (by simp [h3]), (by simpa using q5), (by simp [h6]), (by simpa [h2, h3, h6] using hS)⟩
        · have h3 : L 3 = false := by cases hh : L 3 with | false => rfl | true => (have hq := q3 hh; simp [hi] at hq)
          have h6 : L 6 = false := by cases hh : L 6 with | false => rfl | true => (have hq := q6 hh; simp [h3] at hq)
          obtain rfl := p1 (by simp [he])
          refine wpOp_step rfl (fun K hK => ?_)
          go_simp
          exact hK _ _ ⟨_, _, _, _, _, _, rfl, (by first | exact p0 | exact fun _ => rfl), (by first | exact p1 | exact fun _ => rfl), (fun _ => rfl), (by simp [h3]), (by first | exact p4 | exact fun _ => rfl), (by first | exact p5 | exact fun _ => rfl), (by simpa using q1), (by simp [he]), (by simp [h3]), (by simpa using q5), (by simp [h6]), (by simpa [h3, h6] using hS)⟩
        · have h6 : L 6 = false := by cases hh : L 6 with | false => rfl | true => (have hq := q6 hh; simp [hi] at hq)
          obtain rfl := p2 (by simp [he])
          have f0 : w'.cell? ⟨gd, 3, none⟩ = some (.map (some ga)) := by
            rw [if_neg (by simp [h6])] at hS
            exact hS.cell 0 rfl (k := 3) rfl
          refine wpOp_step rfl (fun K hK => ?_)
          go_simp
          exact hK _ _ ⟨_, _, _, _, _, _, rfl, (by first | exact p0 | exact fun _ => rfl), (by first | exact p1 | exact fun _ => rfl), (by first | exact p2 | exact fun _ => rfl), (fun _ => rfl), (by first | exact p4 | exact fun _ => rfl), (by first | exact p5 | exact fun _ => rfl), (by simpa using q1), (by simpa using q2), (by simp [he]), (by simpa using q5), (by simp [h6]), (by simpa [h6] using hS)⟩
        · have h5 : L 5 = false := by cases hh : L 5 with | false => rfl | true => (have hq := q5 hh; simp [hi] at hq)
          have h6 : L 6 = false := by cases hh : L 6 with | false => rfl | true => (have hq := q6 hh; simp [h5] at hq)
          refine wpOp_step rfl (fun K hK => ?_)
          go_simp
          exact hK _ _ ⟨_, _, _, _, _, _, rfl, (by first | exact p0 | exact fun _ => rfl), (by first | exact p1 | exact fun _ => rfl), (by first | exact p2 | exact fun _ => rfl), (by first | exact p3 | exact fun _ => rfl), (fun _ => rfl), (by simp [h5]), (by simpa using q1), (by simpa using q2), (by simpa using q3), (by simp [h5]), (by simp [h6]), (by simpa [h5, h6] using hS)⟩
        · have h6 : L 6 = false := by cases hh : L 6 with | false => rfl | true => (have hq := q6 hh; simp [hi] at hq)
          obtain rfl := p4 (by simp [he])
          have f0 : w'.cell? ⟨gx, 1, none⟩ = some (.int .i64 (n : Int)) := by
            rw [if_neg (by simp [h6])] at hS
            exact hS.cell 5 rfl (k := 1) rfl
          refine wpOp_step rfl (fun K hK => ?_)
          go_simp
          exact hK _ _ ⟨_, _, _, _, _, _, rfl, (by first | exact p0 | exact fun _ => rfl), (by first | exact p1 | exact fun _ => rfl), (by first | exact p2 | exact fun _ => rfl), (by first | exact p3 | exact fun _ => rfl), (by first | exact p4 | exact fun _ => rfl), (fun _ => rfl), (by simpa using q1), (by simpa using q2), (by simpa using q3), (by simp [he]), (by simp [h6]), (by simpa [h6] using hS)⟩
        · obtain rfl := p3 (by simp [he])
          obtain rfl := p5 (by simp [he])
          rw [if_neg (by simp [hi])] at hS
          obtain ⟨w5, hrun, _, hN⟩ := hS.drop 3 rfl kint HNW.out Try.underlying89
          refine wpOp_step rfl (fun K hK => ?_)
          go_simp
          exact hK _ _ ⟨_, _, _, _, _, _, rfl, (by first | exact p0 | exact fun _ => rfl), (by first | exact p1 | exact fun _ => rfl), (by first | exact p2 | exact fun _ => rfl), (by first | exact p3 | exact fun _ => rfl), (by first | exact p4 | exact fun _ => rfl), (by first | exact p5 | exact fun _ => rfl), (by simpa using q1), (by simpa using q2), (by simpa using q3), (by simpa using q5), (by simp [he]), (by rw [if_pos (by simp)]; exact hN)⟩
      · rintro L ac w' ⟨x17, x18, x19, x20, x21, x22, ha, p0, p1, p2, p3, p4, p5, q1, q2, q3, q5, q6, hS⟩ hall
        have t6 := hall 6 (by decide)
        rw [if_pos t6] at hS
        
        obtain rfl := p0 (hall 0 (by decide))
        obtain rfl := p1 (hall 1 (by decide))
        obtain rfl := p2 (hall 2 (by decide))
        obtain rfl := p3 (hall 3 (by decide))
        obtain rfl := p4 (hall 4 (by decide))
        obtain rfl := p5 (hall 5 (by decide))
        simp only [turn, List.foldl_cons, List.foldl_nil, List.setIfInBounds_toArray, List.set_cons_succ, List.set_cons_zero] at ha
        subst ha
        clear q1 q2 q3 q5 q6  t6
        have HS := Lib.hid hS
        clear hS HB
        have e0 := HS.out.cell 4 rfl (k := 0) rfl
        have e1 := HS.out.cell 4 rfl (k := 1) rfl
        have u0 := HS.out.froz 4 rfl (k := 0)
        have u1 := HS.out.froz 4 rfl (k := 1)
        have H9 := Lib.hid ((HS.out.set 4 rfl (k := 0) (.int .i64 0)).set 4 rfl (k := 1) (.int .i64 0))
        have f0 := H9.out.cell 4 rfl (k := 0) rfl
        have f1 := H9.out.cell 4 rfl (k := 1) rfl
        go_wp2
        refine bodyPost_ret (v := .agg #[.int .i64 0, .int .i64 0]) (by simp [results, Try.results32, asAddr, Result.andThen, go_sem, f0, f1]) rfl ?_
        exact HFIN.out _ _ H9.out (by rw [← HRR.out]; rfl)
end Ft
end Go.Proofs.Ytfljbiobiobamaa
