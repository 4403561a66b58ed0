/-
  Walk of runs.Put. Conditions: none beyond each theorem's own premises.
-/
import Derived.Test.YtjopiepfjbnkbaaGreatDoorRpW
import Derived.Test.YtjopiepfjbnkbaaGreatDoorBase
namespace Go.Proofs.YtjopiepfjbnkbaaGreatDoor
open Go.RowKit
set_option linter.unusedVariables false
namespace Runs

def PutRet (w : World) (r : R) (l : List R) (e : Ending) (w' : World) : Prop := ∃ cl, PutOk r l cl ∧ ListRet w (if rightB cl then cl else []) (if rightB cl then 0 else 4) e w'
theorem drop_at' {α : Type} {l : List α} {k : Nat} {x : α} (h : l[k]? = some x) : l.drop k = x :: l.drop (k + 1) := by
  obtain ⟨h1, h2⟩ := List.getElem?_eq_some_iff.1 h
  rw [List.drop_eq_getElem_cons h1, h2]
theorem row_facts {w0 w : World} {L : List It} {i n c k : Nat} {A : Option Addr} {l : List R} {x : R} (H : Sep w0 w L) (hi : L[i]? = some (.row 60 3 (.slice A n c) n (l.flatMap R.cells))) (hx : l[k]? = some x) :
    w.cell? ⟨(A.getD ⟨0, 0, none⟩).block, k * 3, none⟩ = some (.int .i64 x.at_) ∧ w.cell? ⟨(A.getD ⟨0, 0, none⟩).block, k * 3 + 1, none⟩ = some (.int .i64 x.disk) ∧ w.cell? ⟨(A.getD ⟨0, 0, none⟩).block, k * 3 + 2, none⟩ = some (.int .i64 x.many) := by
  have hn : 0 < n := by
    rcases Nat.eq_zero_or_pos n with h | h
    · subst h
      have h1 := (H.rd i hi).1
      rw [flat_len R.len] at h1
      have h2 := (List.getElem?_eq_some_iff.1 hx).1
      omega
    · exact h
  obtain ⟨g, rfl, _, h⟩ := H.rowAt i hi hn
  have key := fun j u (hj : j < 3) (hu : x.cells[j]? = some u) => (h (k * 3 + j)).1 u ((flat_get R.len l k j x hx hj).trans hu)
  exact ⟨key 0 _ (by omega) rfl, key 1 _ (by omega) rfl, key 2 _ (by omega) rfl⟩

set_option maxRecDepth 100000 in
set_option maxHeartbeats 12800000 in
theorem put_any (A : Option Addr) (n c : Nat) (l : List R) (ra rd rm : Int) (w : World) (hr : Rd w w.heap.size 3 A n (l.flatMap R.cells)) (hl : l.length = n) (hn : n ≤ 1099511627777) (hyes : rightB l = true) (hone : oneB ⟨ra, rd, rm⟩ = true) (hnf : NF none l) :
    Calls Tryz.prog 10 #[.slice A n c, .agg #[.int .i64 ra, .int .i64 rd, .int .i64 rm]] w (PutRet w ⟨ra, rd, rm⟩ l) := by
  obtain ⟨ti, HTI⟩ : ∃ ti, Hid (Tryz.prog.info? 60 = some ti ∧ ti.zero = some (.agg #[.int .i64 0, .int .i64 0, .int .i64 0]) ∧ ti.size = 3 ∧ ti.bytes = 24) := by
    obtain ⟨ti, hti, t0, t1, t2⟩ := info_parts run_info
    exact ⟨ti, Lib.hid ⟨hti, t0, t1, t2⟩⟩
  have HSM := Lib.hid (small_of_right hyes)
  have HRS := Lib.hid (small_of_one hone)
  have HR1 : Hid (1 ≤ (⟨ra, rd, rm⟩ : R).many) := Lib.hid HRS.out.2.2.2.2.1
  have HNF := Lib.hid hnf
  have HS1 : Hid (Sep w (w.alloc (.cells #[.int .i64 ra, .int .i64 rd, .int .i64 rm] 60)) [.cells w.heap.size 60 [.int .i64 ra, .int .i64 rd, .int .i64 rm]]) := Lib.hid ((Sep.nil_ w).new 60 [.int .i64 ra, .int .i64 rd, .int .i64 rm])
  have cR := Lib.hid (right_any A n c l _ (hr.later HS1.out.below) hl (by omega))
  rw [hyes] at cR
  have cO := Lib.hid (fun W => one_is ⟨ra, rd, rm⟩ true W hone)
  unfold R.val at cO
  obtain ⟨q0, HQ⟩ : ∃ q0, Hid (q0 = cutL ra (ra + rm) l) := ⟨_, Lib.hid rfl⟩
  obtain ⟨m, HQL⟩ : ∃ m, Hid (q0.length = m) := ⟨_, Lib.hid rfl⟩
  have hm : m ≤ 2199023255554 := by rw [← HQL.out, HQ.out]; have := cut_len ra (ra + rm) l; omega
  have HWO : Hid (∀ W, Below w.heap.size w W → Calls Tryz.prog 26 #[.slice A n c, .int .i64 ra, .int .i64 rm] W (SliceRet W 60 3 m (q0.flatMap R.cells))) := Lib.hid (fun W hW => by
    have h1 := HRS.out
    unfold Small at h1
    simp only at h1
    have := without_any A n c l ra rm W (hr.later hW) hl hn HSM.out h1.1 h1.2.1 h1.2.2.2.2.1 h1.2.2.2.2.2
    rw [← HQ.out, HQL.out] at this
    exact this)
  clear hr hl hyes hone hnf
  go_enter Tryz.func10, Tryz.ntmps10
  go_upto_region 1 with (fail)
  generalize w.alloc (.cells #[.int .i64 ra, .int .i64 rd, .int .i64 rm] 60) = wo at HS1 cR ⊢
  generalize w.heap.size = gx at HS1 ⊢
  go_wp2_with fail
  refine cR.out.mono ?_; rintro en w1 ⟨rfl, hb1⟩
  have HS2 := Lib.hid (HS1.out.later hb1)
  have x0 := HS2.out.cell 0 rfl (k := 0) rfl
  have x1 := HS2.out.cell 0 rfl (k := 1) rfl
  have x2 := HS2.out.cell 0 rfl (k := 2) rfl
  clear cR hb1 HS1
  go_wp2_with fail
  refine (cO.out _).mono ?_; rintro en w2 ⟨rfl, hb2⟩
  have HB := Lib.hid (HS2.out.later hb2)
  clear cO hb2 HS2 x0 x1 x2
  go_upto_region 3 with (fail)
  refine wp_region_inv0 (fun ac0 L ac w' => ∃ x6 x19 x20 x21 x22 x23 x24 x25 x26 x27, ac = turn ac0 [(6, x6), (19, x19), (20, x20), (21, x21), (22, x22), (23, x23), (24, x24), (25, x25), (26, x26), (27, x27)] ∧ (L 0 = true → x19 = .slice A n c) ∧ (L 1 = true → x20 = .pointer (some ⟨gx, 0, none⟩)) ∧ (L 2 = true → x21 = .int .i64 ra) ∧ (L 3 = true → x22 = .pointer (some ⟨gx, 2, none⟩)) ∧ (L 4 = true → x23 = .int .i64 rm) ∧ (L 6 = true → x25 = .agg #[.int .i64 ra, .int .i64 rd, .int .i64 rm]) ∧ (L 9 = true → x6 = x27) ∧ (L 2 = true → L 1 = true) ∧ (L 4 = true → L 3 = true) ∧ (L 5 = true → L 0 = true ∧ L 2 = true ∧ L 4 = true) ∧ (L 7 = true → L 6 = true) ∧ (L 8 = true → L 5 = true ∧ L 7 = true) ∧ (L 9 = true → L 0 = true ∧ L 1 = true ∧ L 2 = true ∧ L 3 = true ∧ L 4 = true ∧ L 5 = true ∧ L 6 = true ∧ L 7 = true ∧ L 8 = true) ∧ (if L 8 = true then (∃ A2 c2, x27 = .slice A2 (m + 1) c2 ∧ m + 1 ≤ c2 ∧ Sep w w' [.cells gx 60 [.int .i64 ra, .int .i64 rd, .int .i64 rm], .row 60 3 (.slice A2 (m + 1) c2) (m + 1) (q0.flatMap R.cells ++ [.int .i64 ra, .int .i64 rd, .int .i64 rm])]) else (if L 5 = true then (if L 7 = true then (∃ A1 c1 gv, x24 = .slice A1 m c1 ∧ x26 = .slice (some ⟨gv, 0, none⟩) 1 1 ∧ Sep w w' [.cells gx 60 [.int .i64 ra, .int .i64 rd, .int .i64 rm], .row 60 3 (.slice A1 m c1) m (q0.flatMap R.cells), .cells gv 60 [.int .i64 ra, .int .i64 rd, .int .i64 rm]]) else (∃ A1 c1, x24 = .slice A1 m c1 ∧ Sep w w' [.cells gx 60 [.int .i64 ra, .int .i64 rd, .int .i64 rm], .row 60 3 (.slice A1 m c1) m (q0.flatMap R.cells)])) else (if L 7 = true then (∃ gv, x26 = .slice (some ⟨gv, 0, none⟩) 1 1 ∧ Sep w w' [.cells gx 60 [.int .i64 ra, .int .i64 rd, .int .i64 rm], .cells gv 60 [.int .i64 ra, .int .i64 rd, .int .i64 rm]]) else Sep w w' [.cells gx 60 [.int .i64 ra, .int .i64 rd, .int .i64 rm]])))) rfl (by kernel_rfl) ?_ ?_ ?_
  · simp only [turn, List.foldl_cons, List.foldl_nil, List.setIfInBounds_toArray, List.set_cons_succ, List.set_cons_zero]
    exact ⟨_, _, _, _, _, _, _, _, _, _, rfl, (fun h => absurd h (by decide)), (fun h => absurd h (by decide)), (fun h => absurd h (by decide)), (fun h => absurd h (by decide)), (fun h => absurd h (by decide)), (fun h => absurd h (by decide)), (fun h => absurd h (by decide)), (fun h => absurd h (by decide)), (fun h => absurd h (by decide)), (fun h => absurd h (by decide)), (fun h => absurd h (by decide)), (fun h => absurd h (by decide)), (fun h => absurd h (by decide)), by simpa using HB.out.drew⟩
  · rintro L ac w' i o ⟨x6, x19, x20, x21, x22, x23, x24, x25, x26, x27, ha, p0, p1, p2, p3, p4, p6, p9, q2, q4, q5, q7, q8, q9, hS⟩ ho hi he
    simp only [turn, List.foldl_cons, List.foldl_nil, List.setIfInBounds_toArray, List.set_cons_succ, List.set_cons_zero] at ha ⊢
    subst ha
    rcases i with _|_|_|_|_|_|_|_|_|_|i
    all_goals cases ho
    all_goals simp [Region.binds] at he
    · have h5 : L 5 = false := by cases hh : L 5 with | false => rfl | true => (have hq := q5 hh; simp [hi] at hq)
      have h9 : L 9 = false := by cases hh : L 9 with | false => rfl | true => (have hq := q9 hh; simp [hi] at hq)
      have h8 : L 8 = false := by cases hh : L 8 with | false => rfl | true => (have hq := q8 hh; simp [h5] at hq)
      refine wpOp_step rfl (fun K hK => ?_)
      go_simp
      exact hK _ _ ⟨_, _, _, _, _, _, _, _, _, _, rfl, (fun _ => rfl), (by first | exact p1 | exact fun _ => rfl), (by first | exact p2 | exact fun _ => rfl), (by first | exact p3 | exact fun _ => rfl), (by first | exact p4 | exact fun _ => rfl), (by first | exact p6 | exact fun _ => rfl), (by simp [h9]), (by simpa using q2), (by simpa using q4), (by simp [h5]), (by simpa using q7), (by simp [h8]), (by simp [h9]), (by simpa [h5, h9, h8] using hS)⟩
    · have h2 : L 2 = false := by cases hh : L 2 with | false => rfl | true => (have hq := q2 hh; simp [hi] at hq)
      have h9 : L 9 = false := by cases hh : L 9 with | false => rfl | true => (have hq := q9 hh; simp [hi] at hq)
      have h5 : L 5 = false := by cases hh : L 5 with | false => rfl | true => (have hq := q5 hh; simp [h2] at hq)
      have h8 : L 8 = false := by cases hh : L 8 with | false => rfl | true => (have hq := q8 hh; simp [h5] at hq)
      refine wpOp_step rfl (fun K hK => ?_)
      go_simp
      exact hK _ _ ⟨_, _, _, _, _, _, _, _, _, _, rfl, (by first | exact p0 | exact fun _ => rfl), (fun _ => rfl), (by simp [h2]), (by first | exact p3 | exact fun _ => rfl), (by first | exact p4 | exact fun _ => rfl), (by first | exact p6 | exact fun _ => rfl), (by simp [h9]), (by simp [h2]), (by simpa using q4), (by simp [h5]), (by simpa using q7), (by simp [h8]), (by simp [h9]), (by simpa [h2, h9, h5, h8] using hS)⟩
    · have h5 : L 5 = false := by cases hh : L 5 with | false => rfl | true => (have hq := q5 hh; simp [hi] at hq)
      have h9 : L 9 = false := by cases hh : L 9 with | false => rfl | true => (have hq := q9 hh; simp [hi] at hq)
      have h8 : L 8 = false := by cases hh : L 8 with | false => rfl | true => (have hq := q8 hh; simp [h5] at hq)
      obtain rfl := p1 (by simp [he])
      have f0 : w'.cell? ⟨gx, 0, none⟩ = some (.int .i64 ra) := by
        repeat' split at hS
        · obtain ⟨_, _, _, _, S⟩ := hS
          exact S.cell 0 rfl rfl
        · obtain ⟨_, _, _, _, _, S⟩ := hS
          exact S.cell 0 rfl rfl
        · obtain ⟨_, _, _, S⟩ := hS
          exact S.cell 0 rfl rfl
        · obtain ⟨_, _, S⟩ := hS
          exact S.cell 0 rfl rfl
        · exact hS.cell 0 rfl rfl
      refine wpOp_step rfl (fun K hK => ?_)
      go_simp
      exact hK _ _ ⟨_, _, _, _, _, _, _, _, _, _, rfl, (by first | exact p0 | exact fun _ => rfl), (by first | exact p1 | exact fun _ => rfl), (fun _ => rfl), (by first | exact p3 | exact fun _ => rfl), (by first | exact p4 | exact fun _ => rfl), (by first | exact p6 | exact fun _ => rfl), (by simp [h9]), (by simp [he]), (by simpa using q4), (by simp [h5]), (by simpa using q7), (by simp [h8]), (by simp [h9]), (by simpa [h5, h9, h8] using hS)⟩
    · have h4 : L 4 = false := by cases hh : L 4 with | false => rfl | true => (have hq := q4 hh; simp [hi] at hq)
      have h9 : L 9 = false := by cases hh : L 9 with | false => rfl | true => (have hq := q9 hh; simp [hi] at hq)
      have h5 : L 5 = false := by cases hh : L 5 with | false => rfl | true => (have hq := q5 hh; simp [h4] at hq)
      have h8 : L 8 = false := by cases hh : L 8 with | false => rfl | true => (have hq := q8 hh; simp [h5] at hq)
      refine wpOp_step rfl (fun K hK => ?_)
      go_simp
      exact hK _ _ ⟨_, _, _, _, _, _, _, _, _, _, rfl, (by first | exact p0 | exact fun _ => rfl), (by first | exact p1 | exact fun _ => rfl), (by first | exact p2 | exact fun _ => rfl), (fun _ => rfl), (by simp [h4]), (by first | exact p6 | exact fun _ => rfl), (by simp [h9]), (by simpa using q2), (by simp [h4]), (by simp [h5]), (by simpa using q7), (by simp [h8]), (by simp [h9]), (by simpa [h4, h9, h5, h8] using hS)⟩
    · have h5 : L 5 = false := by cases hh : L 5 with | false => rfl | true => (have hq := q5 hh; simp [hi] at hq)
      have h9 : L 9 = false := by cases hh : L 9 with | false => rfl | true => (have hq := q9 hh; simp [hi] at hq)
      have h8 : L 8 = false := by cases hh : L 8 with | false => rfl | true => (have hq := q8 hh; simp [h5] at hq)
      obtain rfl := p3 (by simp [he])
      have f0 : w'.cell? ⟨gx, 2, none⟩ = some (.int .i64 rm) := by
        repeat' split at hS
        · obtain ⟨_, _, _, _, S⟩ := hS
          exact S.cell 0 rfl rfl
        · obtain ⟨_, _, _, _, _, S⟩ := hS
          exact S.cell 0 rfl rfl
        · obtain ⟨_, _, _, S⟩ := hS
          exact S.cell 0 rfl rfl
        · obtain ⟨_, _, S⟩ := hS
          exact S.cell 0 rfl rfl
        · exact hS.cell 0 rfl rfl
      refine wpOp_step rfl (fun K hK => ?_)
      go_simp
      exact hK _ _ ⟨_, _, _, _, _, _, _, _, _, _, rfl, (by first | exact p0 | exact fun _ => rfl), (by first | exact p1 | exact fun _ => rfl), (by first | exact p2 | exact fun _ => rfl), (by first | exact p3 | exact fun _ => rfl), (fun _ => rfl), (by first | exact p6 | exact fun _ => rfl), (by simp [h9]), (by simpa using q2), (by simp [he]), (by simp [h5]), (by simpa using q7), (by simp [h8]), (by simp [h9]), (by simpa [h5, h9, h8] using hS)⟩
    · have h8 : L 8 = false := by cases hh : L 8 with | false => rfl | true => (have hq := q8 hh; simp [hi] at hq)
      have h9 : L 9 = false := by cases hh : L 9 with | false => rfl | true => (have hq := q9 hh; simp [hi] at hq)
      obtain rfl := p0 (by simp [he])
      obtain rfl := p2 (by simp [he])
      obtain rfl := p4 (by simp [he])
      by_cases hj : L 7 = true
      · rw [if_neg (by simp [h8]), if_neg (by simp [hi]), if_pos hj] at hS
        obtain ⟨gv, rfl, hS⟩ := hS
        refine wpOp_step rfl (fun K hK => ?_)
        go_simp
        refine (HWO.out w' hS.below).mono ?_; rintro en w5 ⟨A1, c1, hc1, rfl, KK⟩
        have hN := (hS.join KK).pick [0, 2, 1] (by decide) (by simp)
        exact hK _ _ ⟨_, _, _, _, _, _, _, _, _, _, rfl, (by first | exact p0 | exact fun _ => rfl), (by first | exact p1 | exact fun _ => rfl), (by first | exact p2 | exact fun _ => rfl), (by first | exact p3 | exact fun _ => rfl), (by first | exact p4 | exact fun _ => rfl), (by first | exact p6 | exact fun _ => rfl), (by simp [h9]), (by simpa using q2), (by simpa using q4), (by simp [he]), (by simpa using q7), (by simp [h8]), (by simp [h9]), (by rw [if_neg (by simp [h8]), if_pos (by simp), if_pos (by simpa using hj)]; exact ⟨_, _, _, rfl, rfl, hN⟩)⟩
      · rw [if_neg (by simp [h8]), if_neg (by simp [hi]), if_neg hj] at hS
        refine wpOp_step rfl (fun K hK => ?_)
        go_simp
        refine (HWO.out w' hS.below).mono ?_; rintro en w5 ⟨A1, c1, hc1, rfl, KK⟩
        have hN := hS.join KK
        exact hK _ _ ⟨_, _, _, _, _, _, _, _, _, _, rfl, (by first | exact p0 | exact fun _ => rfl), (by first | exact p1 | exact fun _ => rfl), (by first | exact p2 | exact fun _ => rfl), (by first | exact p3 | exact fun _ => rfl), (by first | exact p4 | exact fun _ => rfl), (by first | exact p6 | exact fun _ => rfl), (by simp [h9]), (by simpa using q2), (by simpa using q4), (by simp [he]), (by simpa using q7), (by simp [h8]), (by simp [h9]), (by rw [if_neg (by simp [h8]), if_pos (by simp), if_neg (by simpa using hj)]; exact ⟨_, _, rfl, hN⟩)⟩
    · have h7 : L 7 = false := by cases hh : L 7 with | false => rfl | true => (have hq := q7 hh; simp [hi] at hq)
      have h9 : L 9 = false := by cases hh : L 9 with | false => rfl | true => (have hq := q9 hh; simp [hi] at hq)
      have h8 : L 8 = false := by cases hh : L 8 with | false => rfl | true => (have hq := q8 hh; simp [h7] at hq)
      have f0 : w'.cell? ⟨gx, 0, none⟩ = some (.int .i64 ra) := by
        repeat' split at hS
        · obtain ⟨_, _, _, _, S⟩ := hS
          exact S.cell 0 rfl rfl
        · obtain ⟨_, _, _, _, _, S⟩ := hS
          exact S.cell 0 rfl rfl
        · obtain ⟨_, _, _, S⟩ := hS
          exact S.cell 0 rfl rfl
        · obtain ⟨_, _, S⟩ := hS
          exact S.cell 0 rfl rfl
        · exact hS.cell 0 rfl rfl
      have f1 : w'.cell? ⟨gx, 1, none⟩ = some (.int .i64 rd) := by
        repeat' split at hS
        · obtain ⟨_, _, _, _, S⟩ := hS
          exact S.cell 0 rfl rfl
        · obtain ⟨_, _, _, _, _, S⟩ := hS
          exact S.cell 0 rfl rfl
        · obtain ⟨_, _, _, S⟩ := hS
          exact S.cell 0 rfl rfl
        · obtain ⟨_, _, S⟩ := hS
          exact S.cell 0 rfl rfl
        · exact hS.cell 0 rfl rfl
      have f2 : w'.cell? ⟨gx, 2, none⟩ = some (.int .i64 rm) := by
        repeat' split at hS
        · obtain ⟨_, _, _, _, S⟩ := hS
          exact S.cell 0 rfl rfl
        · obtain ⟨_, _, _, _, _, S⟩ := hS
          exact S.cell 0 rfl rfl
        · obtain ⟨_, _, _, S⟩ := hS
          exact S.cell 0 rfl rfl
        · obtain ⟨_, _, S⟩ := hS
          exact S.cell 0 rfl rfl
        · exact hS.cell 0 rfl rfl
      refine wpOp_step rfl (fun K hK => ?_)
      go_simp
      exact hK _ _ ⟨_, _, _, _, _, _, _, _, _, _, rfl, (by first | exact p0 | exact fun _ => rfl), (by first | exact p1 | exact fun _ => rfl), (by first | exact p2 | exact fun _ => rfl), (by first | exact p3 | exact fun _ => rfl), (by first | exact p4 | exact fun _ => rfl), (fun _ => rfl), (by simp [h9]), (by simpa using q2), (by simpa using q4), (by simpa using q5), (by simp [h7]), (by simp [h8]), (by simp [h9]), (by simpa [h7, h9, h8] using hS)⟩
    · have h8 : L 8 = false := by cases hh : L 8 with | false => rfl | true => (have hq := q8 hh; simp [hi] at hq)
      have h9 : L 9 = false := by cases hh : L 9 with | false => rfl | true => (have hq := q9 hh; simp [hi] at hq)
      obtain rfl := p6 (by simp [he])
      by_cases hj : L 5 = true
      · rw [if_neg (by simp [h8]), if_pos hj, if_neg (by simp [hi])] at hS
        obtain ⟨A1, c1, rfl, hS⟩ := hS
        have hN := hS.new 60 [.int .i64 ra, .int .i64 rd, .int .i64 rm]
        refine wpOp_step rfl (fun K hK => ?_)
        go_simp
        exact hK _ _ ⟨_, _, _, _, _, _, _, _, _, _, rfl, (by first | exact p0 | exact fun _ => rfl), (by first | exact p1 | exact fun _ => rfl), (by first | exact p2 | exact fun _ => rfl), (by first | exact p3 | exact fun _ => rfl), (by first | exact p4 | exact fun _ => rfl), (by first | exact p6 | exact fun _ => rfl), (by simp [h9]), (by simpa using q2), (by simpa using q4), (by simpa using q5), (by simp [he]), (by simp [h8]), (by simp [h9]), (by rw [if_neg (by simp [h8]), if_pos (by simpa using hj), if_pos (by simp)]; exact ⟨_, _, _, rfl, rfl, hN⟩)⟩
      · rw [if_neg (by simp [h8]), if_neg hj, if_neg (by simp [hi])] at hS
        have hN := hS.new 60 [.int .i64 ra, .int .i64 rd, .int .i64 rm]
        refine wpOp_step rfl (fun K hK => ?_)
        go_simp
        exact hK _ _ ⟨_, _, _, _, _, _, _, _, _, _, rfl, (by first | exact p0 | exact fun _ => rfl), (by first | exact p1 | exact fun _ => rfl), (by first | exact p2 | exact fun _ => rfl), (by first | exact p3 | exact fun _ => rfl), (by first | exact p4 | exact fun _ => rfl), (by first | exact p6 | exact fun _ => rfl), (by simp [h9]), (by simpa using q2), (by simpa using q4), (by simpa using q5), (by simp [he]), (by simp [h8]), (by simp [h9]), (by rw [if_neg (by simp [h8]), if_neg (by simpa using hj), if_pos (by simp)]; exact ⟨_, rfl, hN⟩)⟩
    · have h9 : L 9 = false := by cases hh : L 9 with | false => rfl | true => (have hq := q9 hh; simp [hi] at hq)
      have t5 : L 5 = true := by simp [he]
      have t7 : L 7 = true := by simp [he]
      rw [if_neg (by simp [hi]), if_pos t5, if_pos t7] at hS
      obtain ⟨A1, c1, gv, rfl, rfl, hS⟩ := hS
      have hv0 : Rd w' w'.heap.size 3 (some ⟨gv, 0, none⟩) 1 [.int .i64 ra, .int .i64 rd, .int .i64 rm] := ⟨rfl, fun _ => ⟨gv, 0, rfl, (hS.blk 2 rfl).lt, fun j u hu => by rw [Nat.zero_add]; exact hS.cell 2 rfl hu⟩⟩
      refine wpOp_at rfl rfl ?_
      refine oper_append_sep hS 1 (.tmp 24) (.tmp 26) 56 rfl 60 ti (.agg #[.int .i64 0, .int .i64 0, .int .i64 0]) 3 24 Tryz.underlying56 HTI.out.1 HTI.out.2.1 HTI.out.2.2.1 HTI.out.2.2.2 rfl (by omega) _ m _ rfl rfl _ _ 1 1 _ rfl hv0 (by simp [Value.oneCell']) (by simp only [maxLen]; omega) (by omega) ?_
      intro A' c' w5 hc' _ K5
      exact ⟨_, _, _, _, _, _, _, _, _, _, rfl, (by first | exact p0 | exact fun _ => rfl), (by first | exact p1 | exact fun _ => rfl), (by first | exact p2 | exact fun _ => rfl), (by first | exact p3 | exact fun _ => rfl), (by first | exact p4 | exact fun _ => rfl), (by first | exact p6 | exact fun _ => rfl), (by simp [h9]), (by simpa using q2), (by simpa using q4), (by simpa using q5), (by simpa using q7), (by simp [he]), (by simp [h9]), (by rw [if_pos (by simp)]; exact ⟨A', c', rfl, hc', K5.pick [0, 1] (by decide) (by simp)⟩)⟩
    · refine wpOp_step rfl (fun K hK => ?_)
      go_simp
      exact hK _ _ ⟨_, _, _, _, _, _, _, _, _, _, rfl, (by first | exact p0 | exact fun _ => rfl), (by first | exact p1 | exact fun _ => rfl), (by first | exact p2 | exact fun _ => rfl), (by first | exact p3 | exact fun _ => rfl), (by first | exact p4 | exact fun _ => rfl), (by first | exact p6 | exact fun _ => rfl), (fun _ => rfl), (by simpa using q2), (by simpa using q4), (by simpa using q5), (by simpa using q7), (by simpa using q8), (by simp [he]), (by simpa using hS)⟩
  · rintro L ac w' ⟨x6, x19, x20, x21, x22, x23, x24, x25, x26, x27, ha, p0, p1, p2, p3, p4, p6, p9, q2, q4, q5, q7, q8, q9, hS⟩ hall
    have t5 := hall 5 (by decide)
    have t7 := hall 7 (by decide)
    have t8 := hall 8 (by decide)
    rw [if_pos t8] at hS
    obtain ⟨A2, c2, rfl, hc2, hS⟩ := hS
    obtain rfl := p0 (hall 0 (by decide))
    obtain rfl := p1 (hall 1 (by decide))
    obtain rfl := p2 (hall 2 (by decide))
    obtain rfl := p3 (hall 3 (by decide))
    obtain rfl := p4 (hall 4 (by decide))
    obtain rfl := p6 (hall 6 (by decide))
    obtain rfl := p9 (hall 9 (by decide))
    simp only [turn, List.foldl_cons, List.foldl_nil, List.setIfInBounds_toArray, List.set_cons_succ, List.set_cons_zero] at ha
    subst ha
    clear q2 q4 q5 q7 q8 q9  t5 t7 t8
    have HS := Lib.hid (hS.pick [1] (by decide) (by simp))
    clear hS HB HWO
    generalize hN : m + 1 = N at HS ⊢
    have HNM := Lib.hid hN
    have hN0 : 0 < N := by omega
    have hNb : N ≤ 2199023255555 := by omega
    clear hN
    have hcl2 : (q0 ++ [(⟨ra, rd, rm⟩ : R)]).length = N := by rw [List.length_append, HQL.out, ← HNM.out]; rfl
    have HS2 : Hid (Sep w w' [.row 60 3 (.slice A2 (N) c2) (N) ((q0 ++ [(⟨ra, rd, rm⟩ : R)]).flatMap R.cells)]) := Lib.hid (by rw [List.flatMap_append]; exact HS.out)
    obtain ⟨g6, hA2, _, _⟩ := HS2.out.rowAt 0 rfl (by omega)
    subst hA2
    have cS := Lib.hid (put_sort w w' _ 0 (N) c2 g6 (q0 ++ [(⟨ra, rd, rm⟩ : R)]) HS2.out rfl hcl2 (by omega) (by omega))
    clear HS HS2
    go_wp2_with fail
    refine cS.out.mono ?_; rintro en w6 ⟨rfl, P, hperm, hsort0, K6⟩
    have hsort : P.Pairwise (fun a b => ¬ b.at_ < a.at_) := hsort0.imp (fun {a b} h => by omega)
    clear hsort0
    have HP := Lib.hid hperm
    have HSO := Lib.hid hsort
    have HPL : Hid (P.length = N) := Lib.hid (by rw [hperm.length_eq]; exact hcl2)
    have hputl : Hid (P.Perm (putL ⟨ra, rd, rm⟩ l)) := Lib.hid (by rw [show putL ⟨ra, rd, rm⟩ l = q0 ++ [(⟨ra, rd, rm⟩ : R)] by rw [HQ.out]; rfl]; exact hperm)
    have HBN : Hid (∀ q ∈ P, Bn q) := Lib.hid (put_bn HSM.out HRS.out hputl.out)
    have hod := put_od HNF.out HR1.out hputl.out hsort
    have HOK : Hid (PutOk ⟨ra, rd, rm⟩ l (join P)) := Lib.hid ⟨nf_join _ P none rfl hod (fun q r t e => by cases e), fun q hq => put_edges HR1.out hputl.out hq, fun x d => put_fn HNF.out HSM.out HR1.out HRS.out.2.2.1 hputl.out hod, by have := join_len _ P rfl; have := HPL.out; omega⟩
    have S6 : Hid (Sep w w6 [.row 60 3 (.slice (some ⟨g6, 0, none⟩) (N) c2) (N) (P.flatMap R.cells), .row 60 3 (.slice none 0 0) 0 (([] : List R).flatMap R.cells)]) := Lib.hid (K6.nilRow 60 3 none)
    clear cS K6 hperm hsort hod hputl HP HSO hcl2
    go_wp2
    go_loopg [7, 32] (N) (fun g v7 i wr => ∃ (k : Nat) (A7 : Option Addr) (c7 p : Nat) (out : List R), k ≤ N ∧ g = N - k ∧ i = .int .i64 (k : Int) ∧ v7 = .slice A7 p c7 ∧ p ≤ c7 ∧ Hid (out.length = p) ∧ p ≤ k ∧ Hid (Jo (join P) out (P.drop k)) ∧ Hid (∀ q ∈ out, Bn q) ∧ Sep w wr [.row 60 3 (.slice (some ⟨g6, 0, none⟩) (N) c2) (N) (P.flatMap R.cells), .row 60 3 (.slice A7 p c7) p (out.flatMap R.cells)])
    case atStart => exact ⟨0, none, 0, 0, [], Nat.zero_le _, rfl, rfl, rfl, Nat.le_refl _, Lib.hid rfl, Nat.le_refl _, Lib.hid (.inl ⟨rfl, rfl⟩), Lib.hid (by simp), S6.out⟩
    case round =>
      clear S6
      obtain ⟨k, A7, c7, p, out, hk, rfl, rfl, rfl, hpc, HOL, hpk, HJ, HBO, hs⟩ := hrel
      have HS := Lib.hid hs
      have HPC := Lib.hid hpc
      clear hs hpc
      by_cases hlt : k < N
      · obtain ⟨x, hx⟩ : ∃ x, P[k]? = some x := ⟨_, List.getElem?_eq_getElem (by rw [HPL.out]; exact hlt)⟩
        have hbx := HBN.out x (List.mem_of_getElem? hx)
        have HBX := Lib.hid hbx
        have HJ2 : Hid (Jo (join P) out (x :: P.drop (k + 1))) := Lib.hid (by rw [← drop_at' hx]; exact HJ.out)
        have q0' : wr.cell? ⟨g6, k * 3, none⟩ = some (.int .i64 x.at_) := (row_facts HS.out (i := 0) rfl hx).1
        have q1' : wr.cell? ⟨g6, k * 3 + 1, none⟩ = some (.int .i64 x.disk) := (row_facts HS.out (i := 0) rfl hx).2.1
        have q2' : wr.cell? ⟨g6, k * 3 + 2, none⟩ = some (.int .i64 x.many) := (row_facts HS.out (i := 0) rfl hx).2.2
        have i0 : (0 : Int) ≤ (k : Int) := by omega
        have i1 : (k : Int) < (N : Int) := by omega
        clear hx hbx HJ
        obtain ⟨xa, xd, xm⟩ := x
        simp only at q0' q1' q2'
        go_upto_region 9 with (fail)
        have HS3 : Hid (Sep w (wr.alloc (.cells #[.int .i64 xa, .int .i64 xd, .int .i64 xm] 60)) [.row 60 3 (.slice (some ⟨g6, 0, none⟩) (N) c2) (N) (P.flatMap R.cells), .row 60 3 (.slice A7 p c7) p (out.flatMap R.cells), .cells wr.heap.size 60 [.int .i64 xa, .int .i64 xd, .int .i64 xm]]) := Lib.hid (HS.out.new 60 [.int .i64 xa, .int .i64 xd, .int .i64 xm])
        clear HS q0' q1' q2'
        generalize wr.alloc (.cells #[.int .i64 xa, .int .i64 xd, .int .i64 xm] 60) = wx at HS3 ⊢
        generalize wr.heap.size = g9 at HS3 ⊢
        have y0 : ∀ z : LaterOf wx, z.w.cell? ⟨g9, 0, none⟩ = some (.int .i64 xa) := fun z => z.cell (HS3.out.cell 2 rfl (k := 0) rfl)
        have y1 : ∀ z : LaterOf wx, z.w.cell? ⟨g9, 1, none⟩ = some (.int .i64 xd) := fun z => z.cell (HS3.out.cell 2 rfl (k := 1) rfl)
        have y2 : ∀ z : LaterOf wx, z.w.cell? ⟨g9, 2, none⟩ = some (.int .i64 xm) := fun z => z.cell (HS3.out.cell 2 rfl (k := 2) rfl)
        rcases Nat.eq_zero_or_pos p with rfl | hp0
        · obtain rfl : out = [] := List.eq_nil_of_length_eq_zero HOL.out
          go_upto_region 10 with (fail)
          refine wp_region_later (by kernel_rfl) (by kernel_rfl) ?_
          repeat (go_big_quiet_step (fail))
          refine wpQuiet_nil ?_; intro xw hw'; obtain ⟨xq, hw''⟩ := hw'; obtain ⟨xw0, xh⟩ := xq; change xw = xw0 at hw''; subst hw''
          have HS4 := Lib.hid (HS3.out.later xh)
          have HJ3 := Lib.hid (jo_first HJ2.out)
          clear y0 y1 y2 HS3 xh HJ2
          have v0 := HS4.out.cell 2 rfl (k := 0) rfl
          have v1 := HS4.out.cell 2 rfl (k := 1) rfl
          have v2 := HS4.out.cell 2 rfl (k := 2) rfl
          have hnew := Lib.hid (Rd.of_own (own_new xw 60 #[.int .i64 xa, .int .i64 xd, .int .i64 xm] 3 1 rfl (by simp [maxLen]) (Nat.le_refl _)))
          have HBO2 : Hid (∀ q ∈ [] ++ [(⟨xa, xd, xm⟩ : R)], Bn q) := Lib.hid (fun q hq => by
            rcases List.mem_append.1 hq with h | h
            · exact HBO.out q h
            · simp only [List.mem_singleton] at h
              subst h
              exact HBX.out)
          have HOL2 : Hid (([] ++ [(⟨xa, xd, xm⟩ : R)]).length = 0 + 1) := Lib.hid (by rw [List.length_append, HOL.out]; rfl)
          clear HBO HOL HBX
          go_wp2_with (at_builtin; refine wpList_append_sep (HS4.out.alloc _) 1 rfl (.tmp 60) (.tmp 62) 56 rfl 60 ti (.agg #[.int .i64 0, .int .i64 0, .int .i64 0]) 3 24 Tryz.underlying56 HTI.out.1 HTI.out.2.1 HTI.out.2.2.1 HTI.out.2.2.2 rfl (by omega) _ 0 _ rfl rfl _ _ 1 1 _ rfl hnew.out (by simp [Value.oneCell']) (by simp only [maxLen]; omega) (by omega) ?_; intro A6 c6 w6' hc6 hs6 H6'; have H6 := Lib.hid H6'; have HC6 := Lib.hid hc6; clear H6' hc6)
          go_roundg (N - (k + 1))
          case measure => omega
          case rel =>
            refine ⟨k + 1, A6, c6, 0 + 1, _, by omega, rfl, by go_num, rfl, HC6.out, HOL2, by omega, Lib.hid (HJ3.out), HBO2, ?_⟩
            rw [List.flatMap_append]
            exact H6.out.pick [0, 1] (by decide) (by simp)
        · obtain ⟨j, rfl⟩ : ∃ j, p = j + 1 := ⟨p - 1, by omega⟩
          obtain ⟨pre, a, rfl⟩ : ∃ pre a, out = pre ++ [a] := by
            have : out ≠ [] := fun e => by have := HOL.out; rw [e] at this; simp at this
            exact ⟨out.dropLast, out.getLast this, (List.dropLast_concat_getLast this).symm⟩
          have hpl : pre.length = j := by have := HOL.out; simp at this; exact this
          have HPRE := Lib.hid hpl
          have hba := HBO.out a (by simp)
          have HBA := Lib.hid hba
          have hpa : (pre ++ [a])[j]? = some a := by rw [← hpl]; simp
          have rf := fun (z : LaterOf wx) => row_facts (HS3.out.later z.h) (i := 1) rfl hpa
          obtain ⟨g7, hA7, _, _⟩ := HS3.out.rowAt 1 rfl (by omega)
          subst hA7
          obtain ⟨aa, ad, am⟩ := a
          have z0 : ∀ z : LaterOf wx, z.w.cell? ⟨g7, j * 3, none⟩ = some (.int .i64 aa) := fun z => (rf z).1
          have z1 : ∀ z : LaterOf wx, z.w.cell? ⟨g7, j * 3 + 1, none⟩ = some (.int .i64 ad) := fun z => (rf z).2.1
          have z2 : ∀ z : LaterOf wx, z.w.cell? ⟨g7, j * 3 + 2, none⟩ = some (.int .i64 am) := fun z => (rf z).2.2
          have j0 : (0 : Int) < ((j + 1 : Nat) : Int) := by omega
          have j1 : ((j + 1 : Nat) : Int) - 1 = (j : Int) := by omega
          have j2 : (0 : Int) ≤ (j : Int) := by omega
          have j3 : (j : Int) < ((j + 1 : Nat) : Int) := by omega
          have hw1 : wrap64 (aa + am) = aa + am := IntWalk.wrap64_in _ (by obtain ⟨b1, b2, b3, b4, b5⟩ := hba; simp only at b1 b2 b3 b4 b5; exact ⟨by omega, by omega⟩)
          have hw2 : wrap64 (ad + am) = ad + am := IntWalk.wrap64_in _ (by obtain ⟨b1, b2, b3, b4, b5⟩ := hba; simp only at b1 b2 b3 b4 b5; exact ⟨by omega, by omega⟩)
          clear hpl hba hpa rf
          by_cases hcont : aa + am = xa ∧ ad + am = xd
          · have HCT : Hid (contB ⟨aa, ad, am⟩ ⟨xa, xd, xm⟩ = true) := Lib.hid (by unfold contB; simp only; rw [hw1, hw2]; simp only [Bool.and_eq_true, decide_eq_true_eq]; exact ⟨hcont.1.symm, hcont.2.symm⟩)
            have HJ3 := Lib.hid (jo_join HJ2.out hcont)
            have hsum : Hid (Bn ⟨aa, ad, am + xm⟩) := Lib.hid (by have h1 := HBA.out; have h2 := HBX.out; unfold Bn at h1 h2 ⊢; simp only at h1 h2 ⊢; omega)
            have hws : wrap64 (am + xm) = am + xm := IntWalk.wrap64_in _ (by have h1 := HBA.out; have h2 := HBX.out; unfold Bn at h1 h2; simp only at h1 h2; exact ⟨by omega, by omega⟩)
            have HWS := Lib.hid hws
            clear hw1 hw2 hcont HJ2 hws
            go_upto_region 10 with (fail)
            refine wp_region_later (by kernel_rfl) (by kernel_rfl) ?_
            repeat (go_big_quiet_step ((go_at_call 30; exact Calls.later (cont_is ⟨aa, ad, am⟩ ⟨xa, xd, xm⟩ true _ HCT.out))))
            refine wpQuiet_nil ?_; intro xw hw'; obtain ⟨xq, hw''⟩ := hw'; obtain ⟨xw0, xh⟩ := xq; change xw = xw0 at hw''; subst hw''
            have HS4 := Lib.hid (HS3.out.later xh)
            have y2' : ∀ z : LaterOf xw, z.w.cell? ⟨g9, 2, none⟩ = some (.int .i64 xm) := fun z => z.cell (HS4.out.cell 2 rfl (k := 2) rfl)
            have z2' : ∀ z : LaterOf xw, z.w.cell? ⟨g7, j * 3 + 2, none⟩ = some (.int .i64 am) := fun z => z.cell (z2 ⟨xw, xh⟩)
            have hws := HWS.out
            clear y0 y1 y2 z0 z1 z2 HS3 xh
            generalize xw = wy at HS4 y2' z2' ⊢
            go_upto_region 11 with (fail)
            (refine wp_region_tail 9 (by kernel_rfl) (by kernel_rfl) ?_; simp only [List.take_succ_cons, List.take_zero, List.drop_succ_cons, List.drop_zero]; repeat (go_big_quiet_step (fail)))
            refine wpQuiet_nil ?_; intro xw hw'; obtain ⟨xq, hw''⟩ := hw'; obtain ⟨xw0, xh⟩ := xq; change xw = xw0 at hw''; subst hw''
            have HS5 := Lib.hid (HS4.out.later xh)
            clear y2' z2' HS4 xh
            obtain ⟨g7', e7, _, hat⟩ := HS5.out.rowAt 1 rfl (by omega)
            cases e7
            have u2 := (hat (j * 3 + 2)).2.1
            have v2 := row_facts HS5.out (i := 1) rfl (show (pre ++ [(⟨aa, ad, am⟩ : R)])[j]? = some ⟨aa, ad, am⟩ by rw [← HPRE.out]; simp)
            have v3 : xw.cell? ⟨g7, j * 3 + 2, none⟩ = some (.int .i64 am) := v2.2.2
            have HS6 : Hid (Sep w (xw.setCell ⟨g7, j * 3 + 2, none⟩ (.int .i64 (am + xm))) [.row 60 3 (.slice (some ⟨g6, 0, none⟩) (N) c2) (N) (P.flatMap R.cells), .row 60 3 (.slice (some ⟨g7, 0, none⟩) (j + 1) c7) (j + 1) ((pre ++ [(⟨aa, ad, am + xm⟩ : R)]).flatMap R.cells)]) := Lib.hid (by
              have h1 := ((hat (j * 3 + 2)).2.2 (.int .i64 (am + xm))).pick [0, 1] (by decide) (by simp)
              have h2 := many_set (show (pre ++ [(⟨aa, ad, am⟩ : R)])[j]? = some ⟨aa, ad, am⟩ by rw [← HPRE.out]; simp) (am + xm)
              rw [show (pre ++ [(⟨aa, ad, am⟩ : R)]).set j ⟨aa, ad, am + xm⟩ = pre ++ [⟨aa, ad, am + xm⟩] by rw [← HPRE.out]; simp] at h2
              rw [← h2]
              exact h1)
            have HBO2 : Hid (∀ q ∈ pre ++ [(⟨aa, ad, am + xm⟩ : R)], Bn q) := Lib.hid (fun q hq => by
              rcases List.mem_append.1 hq with h | h
              · exact HBO.out q (by simp [h])
              · simp only [List.mem_singleton] at h
                subst h
                exact hsum.out)
            have HOL2 : Hid ((pre ++ [(⟨aa, ad, am + xm⟩ : R)]).length = j + 1) := Lib.hid (by rw [List.length_append, HPRE.out]; rfl)
            clear HS5 hat v2 HBO HOL
            go_wp2
            go_roundg (N - (k + 1))
            case measure => omega
            case rel => exact ⟨k + 1, some ⟨g7, 0, none⟩, c7, j + 1, _, by omega, rfl, by go_num, rfl, HPC.out, HOL2, by omega, HJ3, HBO2, HS6.out⟩
          · have HCT : Hid (contB ⟨aa, ad, am⟩ ⟨xa, xd, xm⟩ = false) := Lib.hid (by
              unfold contB; simp only; rw [hw1, hw2]
              rw [Bool.eq_false_iff]
              intro h
              simp only [Bool.and_eq_true, decide_eq_true_eq] at h
              exact hcont ⟨h.1.symm, h.2.symm⟩)
            have HJ3 := Lib.hid (jo_go HJ2.out hcont)
            clear hw1 hw2 hcont HJ2
            go_upto_region 10 with (fail)
            refine wp_region_later (by kernel_rfl) (by kernel_rfl) ?_
            repeat (go_big_quiet_step ((go_at_call 30; exact Calls.later (cont_is ⟨aa, ad, am⟩ ⟨xa, xd, xm⟩ false _ HCT.out))))
            refine wpQuiet_nil ?_; intro xw hw'; obtain ⟨xq, hw''⟩ := hw'; obtain ⟨xw0, xh⟩ := xq; change xw = xw0 at hw''; subst hw''
            have HS4 := Lib.hid (HS3.out.later xh)
            clear y0 y1 y2 z0 z1 z2 HS3 xh
            have v0 := HS4.out.cell 2 rfl (k := 0) rfl
            have v1 := HS4.out.cell 2 rfl (k := 1) rfl
            have v2 := HS4.out.cell 2 rfl (k := 2) rfl
            have hnew := Lib.hid (Rd.of_own (own_new xw 60 #[.int .i64 xa, .int .i64 xd, .int .i64 xm] 3 1 rfl (by simp [maxLen]) (Nat.le_refl _)))
            have HBO2 : Hid (∀ q ∈ (pre ++ [(⟨aa, ad, am⟩ : R)]) ++ [(⟨xa, xd, xm⟩ : R)], Bn q) := Lib.hid (fun q hq => by
              rcases List.mem_append.1 hq with h | h
              · exact HBO.out q h
              · simp only [List.mem_singleton] at h
                subst h
                exact HBX.out)
            have HOL2 : Hid (((pre ++ [(⟨aa, ad, am⟩ : R)]) ++ [(⟨xa, xd, xm⟩ : R)]).length = (j + 1) + 1) := Lib.hid (by rw [List.length_append, HOL.out]; rfl)
            clear HBO HOL HBX
            go_wp2_with (at_builtin; refine wpList_append_sep (HS4.out.alloc _) 1 rfl (.tmp 60) (.tmp 62) 56 rfl 60 ti (.agg #[.int .i64 0, .int .i64 0, .int .i64 0]) 3 24 Tryz.underlying56 HTI.out.1 HTI.out.2.1 HTI.out.2.2.1 HTI.out.2.2.2 rfl (by omega) _ (j + 1) _ rfl rfl _ _ 1 1 _ rfl hnew.out (by simp [Value.oneCell']) (by simp only [maxLen]; omega) (by omega) ?_; intro A6 c6 w6' hc6 hs6 H6'; have H6 := Lib.hid H6'; have HC6 := Lib.hid hc6; clear H6' hc6)
            go_roundg (N - (k + 1))
            case measure => omega
            case rel =>
              refine ⟨k + 1, A6, c6, (j + 1) + 1, _, by omega, rfl, by go_num, rfl, HC6.out, HOL2, by omega, Lib.hid (HJ3.out), HBO2, ?_⟩
              rw [List.flatMap_append]
              exact H6.out.pick [0, 1] (by decide) (by simp)
      · obtain rfl : k = N := by omega
        have hje := HJ.out
        rw [List.drop_of_length_le (by rw [HPL.out]; omega)] at hje
        have hoe := jo_end hje
        clear hje HJ
        have HOE := Lib.hid hoe
        have cV := Lib.hid (valid_any A7 p c7 out w wr (HS.out.pick [1] (by decide) (by simp)) HPC.out HOL.out (by omega))
        rw [HOE.out] at cV
        clear hoe
        obtain ⟨lo, hlo⟩ : ∃ lo, lo = (if rightB (join P) then join P else []) := ⟨_, rfl⟩
        obtain ⟨er, her⟩ : ∃ er : Int, er = (if rightB (join P) then 0 else 4) := ⟨_, rfl⟩
        rw [← hlo, ← her] at cV
        have HFIN : Hid (∀ A8 c8 w8, lo.length ≤ c8 → Sep w w8 [.row 60 3 (.slice A8 lo.length c8) lo.length (lo.flatMap R.cells)] → PutRet w ⟨ra, rd, rm⟩ l (.returned (.tuple #[.slice A8 lo.length c8, .int .i64 er])) w8) := Lib.hid (fun A8 c8 w8 h1 h2 => ⟨join P, HOK.out, A8, c8, by rw [← hlo]; exact h1, by rw [← hlo, ← her], by rw [← hlo]; exact h2⟩)
        clear hlo her
        go_wp2_with fail
        refine cV.out.mono ?_; rintro en w8 ⟨A8, c8, hc8, rfl, K8⟩
        have HS8 := Lib.hid K8
        have HC8 := Lib.hid hc8
        clear K8 cV hc8
        go_wp2
        refine bodyPost_ret (v := .tuple #[.slice A8 lo.length c8, .int .i64 er]) (by simp [results, Tryz.results10]) rfl ?_
        exact HFIN.out A8 c8 _ HC8.out HS8.out
end Runs
end Go.Proofs.YtjopiepfjbnkbaaGreatDoor
