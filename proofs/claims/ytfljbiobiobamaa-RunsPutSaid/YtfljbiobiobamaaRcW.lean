/-
  Walks of runs.without, valid and Cut. Conditions: none beyond each theorem's own premises.
-/
import Derived.Test.YtfljbiobiobamaaRcM
import Derived.Test.YtfljbiobiobamaaSep
import Derived.Test.YtfljbiobiobamaaSlices
namespace Go.Proofs.Ytfljbiobiobamaa
open Go.RowKit
set_option linter.unusedVariables false
namespace Runs

theorem run_info : (Try.prog.info? 50).map (fun i => (i.zero, i.size, i.bytes)) = some (some (.agg #[.int .i64 0, .int .i64 0, .int .i64 0]), 3, 24) := by kernel_rfl
theorem R.one (l : List R) : ∀ u ∈ l.flatMap R.cells, u.oneCell' = true := by
  intro u hu
  rw [List.mem_flatMap] at hu
  obtain ⟨x, _, hu⟩ := hu
  simp only [R.cells, List.mem_cons, List.not_mem_nil, or_false] at hu
  rcases hu with rfl | rfl | rfl <;> rfl
theorem min_is {a b m : Int} (h : m = if b < a then b else a) : m = min a b := by
  rw [h]
  split <;> omega
theorem cut_take {s e : Int} {l : List R} {k : Nat} {x : R} (h : l[k]? = some x) : cutL s e (l.take (k + 1)) = cutL s e (l.take k) ++ (lo1 s x ++ hi1 e x) := by
  unfold cutL
  rw [List.take_add_one, h, List.flatMap_append]
  simp
theorem cut_len (s e : Int) (l : List R) : (cutL s e l).length ≤ 2 * l.length := by
  induction l with
  | nil => simp [cut_nil]
  | cons r t ih =>
    rw [cut_cons, List.length_append, List.length_append, List.length_cons]
    have h1 : (lo1 s r).length ≤ 1 := by unfold lo1; split <;> simp
    have h2 : (hi1 e r).length ≤ 1 := by unfold hi1; split <;> simp
    omega

set_option maxRecDepth 100000 in
set_option maxHeartbeats 3200000 in
theorem without_any (A : Option Addr) (n c : Nat) (l : List R) (s m : Int) (w : World) (hr : Rd w w.heap.size 3 A n (l.flatMap R.cells)) (hl : l.length = n) (hn : n ≤ 1099511627777) (hsm : ∀ r ∈ l, Small r) (hs0 : 0 ≤ s) (hs1 : s ≤ 1099511627776) (hm0 : 1 ≤ m) (hm1 : m ≤ 1099511627776) :
    Calls Try.prog 35 #[.slice A n c, .int .i64 s, .int .i64 m] w (SliceRet w 50 3 (cutL s (s + m) l).length ((cutL s (s + m) l).flatMap R.cells)) := by
  obtain ⟨ti, hti, t0, t1, t2⟩ := info_parts run_info
  have HR := Lib.hid hr
  have HL := Lib.hid hl
  have HSM := Lib.hid hsm
  obtain ⟨e, HE⟩ : ∃ e, Hid (e = s + m) := ⟨_, Lib.hid rfl⟩
  have he : s + m = e := HE.out.symm
  have S0 : Hid (Sep w w [.row 50 3 (.slice none 0 0) 0 ((cutL s e (l.take 0)).flatMap R.cells)]) := Lib.hid ((Sep.nil_ w).nilRow 50 3 none)
  rw [he]
  clear hr hl hsm
  go_enter Try.func35, Try.ntmps35
  go_wp2
  clear he
  go_loopg [7, 19] n (fun g v7 i wr => ∃ (k q : Nat) (A7 : Option Addr) (c7 : Nat), k ≤ n ∧ g = n - k ∧ i = .int .i64 (k : Int) ∧ v7 = .slice A7 q c7 ∧ q ≤ c7 ∧ q ≤ 2 * k ∧ Hid (q = (cutL s e (l.take k)).length) ∧ Sep w wr [.row 50 3 (.slice A7 q c7) q ((cutL s e (l.take k)).flatMap R.cells)])
  case atStart => exact ⟨0, 0, none, 0, Nat.zero_le _, rfl, rfl, rfl, Nat.le_refl _, Nat.le_refl _, Lib.hid rfl, S0.out⟩
  case round =>
    clear S0
    obtain ⟨k, q, A7, c7, hk, rfl, rfl, rfl, hc7, hq, HQ, hs⟩ := hrel
    have HS := Lib.hid hs
    clear hs
    by_cases hlt : k < n
    · obtain ⟨b, off, rfl, hb, hc⟩ := HR.out.at_ R.len (by omega)
      obtain ⟨x, hx⟩ : ∃ x, l[k]? = some x := ⟨_, List.getElem?_eq_getElem (by rw [HL.out]; exact hlt)⟩
      obtain ⟨d0, d1, d2⟩ := R.facts hb HS.out.below hc hx
      obtain ⟨z1, z2, z3, z4, z5, z6⟩ := HSM.out x (List.mem_of_getElem? hx)
      have HX := Lib.hid (cut_take (s := s) (e := e) hx)
      have i0 : (0 : Int) ≤ (k : Int) := by omega
      have i1 : (k : Int) < (n : Int) := by omega
      have HS1 : Hid (Sep w (wr.alloc (.cells #[.int .i64 x.at_, .int .i64 x.disk, .int .i64 x.many] 50)) [.row 50 3 (.slice A7 q c7) q ((cutL s e (l.take k)).flatMap R.cells), .cells wr.heap.size 50 x.cells]) := Lib.hid (HS.out.new 50 x.cells)
      clear hc hx
      obtain ⟨xa, xd, xm⟩ := x
      simp only at d0 d1 d2 z1 z2 z3 z4 z5 z6 HS1
      go_upto_region 6 with (fail)
      generalize wr.alloc (.cells #[.int .i64 xa, .int .i64 xd, .int .i64 xm] 50) = wo at HS1 ⊢
      generalize wr.heap.size = gb at HS1 ⊢
      clear HS d0 d1 d2
      have e0 := HS1.out.cell 1 rfl (k := 0) rfl
      have e1 := HS1.out.cell 1 rfl (k := 1) rfl
      have e2 := HS1.out.cell 1 rfl (k := 2) rfl
      simp only at e0 e1 e2
      have hes : e = s + m := HE.out
      obtain ⟨m1, HM1, hmin1⟩ := min2_ex Try.prog xm (s - xa)
      obtain ⟨m2, HM2, hmin2⟩ := min2_ex Try.prog xm (xa + xm - e)
      have HM1' := Lib.hid (min_is HM1.out)
      have HM2' := Lib.hid (min_is HM2.out)
      clear HM1 HM2
      have b1 : e ≤ 2199023255552 := by omega
      have b2 : 0 ≤ e := by omega
      clear hes
      by_cases k1 : 0 < m1
      · have hlo : Hid (lo1 s ⟨xa, xd, xm⟩ = [⟨xa, xd, m1⟩]) := Lib.hid (by unfold lo1; rw [← HM1'.out, if_pos k1])
        have hnew := Lib.hid (Rd.of_own (own_new wo 50 #[.int .i64 xa, .int .i64 xd, .int .i64 m1] 3 1 rfl (by simp [maxLen]) (Nat.le_refl _)))
        go_upto_region 9 with (at_builtin; refine wpList_append_sep (HS1.out.alloc _) 0 rfl (.tmp 32) (.tmp 39) 48 rfl 50 ti (.agg #[.int .i64 0, .int .i64 0, .int .i64 0]) 3 24 Try.underlying48 hti t0 t1 t2 rfl (by omega) _ q _ rfl rfl _ _ 1 1 _ rfl hnew.out (by simp [Value.oneCell']) (by simp only [maxLen]; omega) (by omega) ?_; intro A8 c8 w8 hc8 hs8 H8'; have H8 := Lib.hid H8'; clear H8')
        clear e0 e1 e2 HS1 hnew
        have e0 := H8.out.cell 1 rfl (k := 0) rfl
        have e1 := H8.out.cell 1 rfl (k := 1) rfl
        have e2 := H8.out.cell 1 rfl (k := 2) rfl
        simp only at e0 e1 e2
        by_cases k2 : 0 < m2
        · have hhi : Hid (hi1 e ⟨xa, xd, xm⟩ = [⟨xa + (xm - m2), xd + (xm - m2), m2⟩]) := Lib.hid (by unfold hi1; rw [← HM2'.out, if_pos k2])
          have b3 : m2 ≤ xm := by have := HM2'.out; omega
          obtain ⟨sk, hsk⟩ : ∃ sk, sk = xm - m2 := ⟨_, rfl⟩
          rw [← hsk] at hhi
          have b4 : 0 ≤ sk := by omega
          have b5 : sk ≤ 1099511627776 := by omega
          have hsk' : xm - m2 = sk := hsk.symm
          clear hsk
          have hnew := Lib.hid (Rd.of_own (own_new w8 50 #[.int .i64 (xa + sk), .int .i64 (xd + sk), .int .i64 m2] 3 1 rfl (by simp [maxLen]) (Nat.le_refl _)))
          go_wp2_with (at_builtin; refine wpList_append_sep (H8.out.alloc _) 0 rfl (.tmp 57) (.tmp 68) 48 rfl 50 ti (.agg #[.int .i64 0, .int .i64 0, .int .i64 0]) 3 24 Try.underlying48 hti t0 t1 t2 rfl (by omega) _ (q + 1) _ rfl rfl _ _ 1 1 _ rfl hnew.out (by simp [Value.oneCell']) (by simp only [maxLen]; omega) (by omega) ?_; intro A9 c9 w9 hc9 hs9 H9'; have H9 := Lib.hid H9'; clear H9')
          go_roundg (n - (k + 1))
          case measure => omega
          case rel => exact ⟨k + 1, q + 1 + 1, A9, c9, by omega, rfl, by go_num, rfl, hc9, by omega, Lib.hid (by rw [HX.out, hlo.out, hhi.out, List.length_append, ← HQ.out]; rfl), by rw [HX.out, hlo.out, hhi.out, List.flatMap_append]; have := H9.out.pick [0] (by decide) (by simp); rw [List.append_assoc] at this; exact this⟩
        · have hhi : Hid (hi1 e ⟨xa, xd, xm⟩ = []) := Lib.hid (by unfold hi1; rw [← HM2'.out, if_neg k2])
          go_wp2
          go_roundg (n - (k + 1))
          case measure => omega
          case rel => exact ⟨k + 1, q + 1, A8, c8, by omega, rfl, by go_num, rfl, hc8, by omega, Lib.hid (by rw [HX.out, hlo.out, hhi.out, List.length_append, ← HQ.out]; rfl), by rw [HX.out, hlo.out, hhi.out, List.flatMap_append]; exact H8.out.pick [0] (by decide) (by simp)⟩
      · have hlo : Hid (lo1 s ⟨xa, xd, xm⟩ = []) := Lib.hid (by unfold lo1; rw [← HM1'.out, if_neg k1])
        by_cases k2 : 0 < m2
        · have hhi : Hid (hi1 e ⟨xa, xd, xm⟩ = [⟨xa + (xm - m2), xd + (xm - m2), m2⟩]) := Lib.hid (by unfold hi1; rw [← HM2'.out, if_pos k2])
          have b3 : m2 ≤ xm := by have := HM2'.out; omega
          obtain ⟨sk, hsk⟩ : ∃ sk, sk = xm - m2 := ⟨_, rfl⟩
          rw [← hsk] at hhi
          have b4 : 0 ≤ sk := by omega
          have b5 : sk ≤ 1099511627776 := by omega
          have hsk' : xm - m2 = sk := hsk.symm
          clear hsk
          have hnew := Lib.hid (Rd.of_own (own_new wo 50 #[.int .i64 (xa + sk), .int .i64 (xd + sk), .int .i64 m2] 3 1 rfl (by simp [maxLen]) (Nat.le_refl _)))
          go_wp2_with (at_builtin; refine wpList_append_sep (HS1.out.alloc _) 0 rfl (.tmp 57) (.tmp 68) 48 rfl 50 ti (.agg #[.int .i64 0, .int .i64 0, .int .i64 0]) 3 24 Try.underlying48 hti t0 t1 t2 rfl (by omega) _ q _ rfl rfl _ _ 1 1 _ rfl hnew.out (by simp [Value.oneCell']) (by simp only [maxLen]; omega) (by omega) ?_; intro A9 c9 w9 hc9 hs9 H9'; have H9 := Lib.hid H9'; clear H9')
          go_roundg (n - (k + 1))
          case measure => omega
          case rel => exact ⟨k + 1, q + 1, A9, c9, by omega, rfl, by go_num, rfl, hc9, by omega, Lib.hid (by rw [HX.out, hlo.out, hhi.out, List.length_append, ← HQ.out]; rfl), by rw [HX.out, hlo.out, hhi.out, List.flatMap_append]; exact H9.out.pick [0] (by decide) (by simp)⟩
        · have hhi : Hid (hi1 e ⟨xa, xd, xm⟩ = []) := Lib.hid (by unfold hi1; rw [← HM2'.out, if_neg k2])
          go_wp2
          go_roundg (n - (k + 1))
          case measure => omega
          case rel => exact ⟨k + 1, q, A7, c7, by omega, rfl, by go_num, rfl, hc7, by omega, Lib.hid (by rw [HX.out, hlo.out, hhi.out, List.length_append, ← HQ.out]; rfl), by rw [HX.out, hlo.out, hhi.out, List.append_nil, List.append_nil]; exact HS1.out.pick [0] (by decide) (by simp)⟩
    · obtain rfl : k = n := by omega
      have hall : l.take k = l := List.take_of_length_le (by rw [HL.out]; omega)
      rw [hall] at HQ HS
      have hq' := HQ.out
      subst hq'
      go_wp2
      go_ret
      exact ⟨A7, c7, hc7, rfl, HS.out⟩

def ListRet (w : World) (l : List R) (er : Int) (e : Ending) (w' : World) : Prop := ∃ A' c', l.length ≤ c' ∧ e = .returned (.tuple #[.slice A' l.length c', .int .i64 er]) ∧ Sep w w' [.row 50 3 (.slice A' l.length c') l.length (l.flatMap R.cells)]
theorem ListRet.none_ {w w' : World} {er : Int} (h : Below w.heap.size w w') : ListRet w [] er (.returned (.tuple #[.slice none 0 0, .int .i64 er])) w' :=
  ⟨none, 0, Nat.le_refl _, rfl, ((Sep.nil_ w).later h).nilRow 50 3 none⟩
/-- valid: over runs of the call's own -/
theorem valid_any (A : Option Addr) (n c : Nat) (l : List R) (w0 w : World) (hs : Sep w0 w [.row 50 3 (.slice A n c) n (l.flatMap R.cells)]) (hc : n ≤ c) (hl : l.length = n) (hn : n ≤ 9223372036854775807) :
    Calls Try.prog 40 #[.slice A n c] w (ListRet w0 (if rightB l then l else []) (if rightB l then 0 else 4)) := by
  have HS := Lib.hid hs
  have HL := Lib.hid hl
  have cR := Lib.hid (right_any A n c l w (hs.rd 0 rfl) hl hn)
  clear hs hl
  cases hr : rightB l with
  | true =>
    rw [hr] at cR
    clear hr
    simp only [if_true]
    go_enter Try.func40, Try.ntmps40
    go_wp2_with fail
    refine cR.out.mono ?_; rintro en w1 ⟨rfl, hb⟩
    go_wp2
    refine bodyPost_ret (v := .tuple #[.slice A n c, .int .i64 0]) (by simp [results, Try.results40]) rfl ?_
    have hl := HL.out
    subst hl
    exact ⟨A, c, hc, rfl, HS.out.later hb⟩
  | false =>
    rw [hr] at cR
    clear hr
    simp only [Bool.false_eq_true, if_false]
    go_enter Try.func40, Try.ntmps40
    go_wp2_with fail
    refine cR.out.mono ?_; rintro en w1 ⟨rfl, hb⟩
    go_wp2
    refine bodyPost_ret (v := .tuple #[.slice none 0 0, .int .i64 4]) (by simp [results, Try.results40]) rfl ?_
    exact ListRet.none_ (HS.out.later hb).below
end Runs
end Go.Proofs.Ytfljbiobiobamaa
