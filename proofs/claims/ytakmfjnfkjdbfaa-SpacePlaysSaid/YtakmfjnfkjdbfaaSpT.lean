/-
  Walk of space.take. Conditions: none.
-/
import Derived.Test.YtakmfjnfkjdbfaaSpL
import Derived.Test.YtakmfjnfkjdbfaaSpD
namespace Go.Proofs.Ytakmfjnfkjdbfaa
open Go.RowKit
set_option linter.unusedVariables false
namespace Sp

set_option maxHeartbeats 800000 in
theorem gclone_any (A : Option Addr) (n c : Nat) (xs : List Value) (w : World) (hr : Rd w w.heap.size 2 A n xs) (h1 : ∀ u ∈ xs, u.oneCell' = true) (hn : n * 16 ≤ 140737488355328) (hm : n ≤ 9223372036854775807) :
    Calls Try.prog 64 #[.slice A n c] w (SliceRet w 50 2 n xs) := by
  obtain ⟨ti, hti, t0, t1, t2⟩ := info_parts gap_info
  have HR := Lib.hid hr
  have H1 := Lib.hid h1
  have hnil : ∀ w, (binOp .eql 37 (.slice A n c) (.slice none 0 0)).run Try.prog w = .ok (.bool A.isNone) w := fun w => Lib.run_eql_slice_nil w 37 50 A n c 0 0 Try.underlying37
  clear hr h1
  cases A with
  | none =>
    obtain rfl : n = 0 := by
      rcases Nat.eq_zero_or_pos n with h | h
      · exact h
      · obtain ⟨b, off, hA, _⟩ := HR.out.2 h; cases hA
    obtain rfl : xs = [] := List.eq_nil_of_length_eq_zero (by have := HR.out.1; omega)
    have hnil' : ∀ w, (binOp .eql 37 (.slice none 0 c) (.slice none 0 0)).run Try.prog w = .ok (.bool true) w := hnil
    clear hnil
    go_enter Try.func64, Try.ntmps64
    go_wp2
    go_ret
    exact ⟨none, 0, Nat.le_refl _, rfl, (Sep.nil_ w).nilRow 50 2 none⟩
  | some a =>
    have hnil' : ∀ w, (binOp .eql 37 (.slice (some a) n c) (.slice none 0 0)).run Try.prog w = .ok (.bool false) w := hnil
    clear hnil
    have HS0 : Hid (Sep w (w.alloc (.cells #[] 50)) [.row 50 2 (.slice (some ⟨w.heap.size, 0, none⟩) 0 0) 0 []]) := Lib.hid (((Sep.nil_ w).alloc _).nilRow 50 2 _)
    have HRs := Lib.hid (HR.out.later HS0.out.below)
    go_enter Try.func64, Try.ntmps64
    go_wp2_with (at_builtin; refine wpList_append_sep HS0.out 0 rfl (.tmp 5) (.tmp 6) 37 rfl 50 ti (.agg #[.int .i64 0, .int .i64 0]) 2 16 Try.underlying37 hti t0 t1 t2 rfl (by omega) _ 0 _ rfl rfl _ _ n c _ rfl HRs.out H1.out (by simp only [maxLen]; omega) (by omega) ?_; intro A6 c6 w3 hc6 hs3 HA)
    go_ret
    simp only [Nat.zero_add, List.nil_append] at HA hc6 ⊢
    exact ⟨A6, c6, hc6, rfl, HA⟩

set_option maxRecDepth 100000 in
set_option maxHeartbeats 1600000 in
theorem take_none (A : Option Addr) (n c m : Nat) (kind at' : Int) (l : List N) (w : World) (hr : Rd w w.heap.size 2 A n (l.flatMap ncells)) (hl : l.length = n) (hn : n ≤ 4096) (hch : chAll m (kind == 2) l n = none) :
    Calls Try.prog 47 #[.slice A n c, .agg #[.int .i64 kind, .int .i64 at', .int .i64 (m : Int)]] w (StepRet w ([], 4, 0)) := by
  have S0 : Hid (Sep w ((w.alloc (.cells #[.int .i64 kind, .int .i64 at', .int .i64 (m : Int)] 39)).alloc (.cells #[.int .i64 0, .int .i64 0] 41)) [.cells w.heap.size 39 [.int .i64 kind, .int .i64 at', .int .i64 (m : Int)], .cells (w.heap.size + 1) 41 [.int .i64 0, .int .i64 0]]) := Lib.hid (by
    have := ((Sep.nil_ w).new 39 [.int .i64 kind, .int .i64 at', .int .i64 (m : Int)]).new 41 [.int .i64 0, .int .i64 0]
    simpa using this)
  have cC := Lib.hid (choose_any A n c m kind at' l _ (hr.later S0.out.below) hl (by omega))
  rw [hch] at cC
  clear hr hl hch
  go_enter Try.func47, Try.ntmps47
  go_upto_region 1 with (fail)
  generalize ((w.alloc (.cells #[.int .i64 kind, .int .i64 at', .int .i64 (m : Int)] 39)).alloc (.cells #[.int .i64 0, .int .i64 0] 41)) = wo at S0 cC ⊢
  generalize w.heap.size = go at S0 ⊢
  have d0 := S0.out.cell 0 rfl (k := 0) rfl
  have d1 := S0.out.cell 0 rfl (k := 1) rfl
  have d2 := S0.out.cell 0 rfl (k := 2) rfl
  go_wp2_with fail
  refine cC.out.mono ?_; rintro en w1 ⟨rfl, hb1⟩
  have S1 := Lib.hid (S0.out.later hb1)
  clear hb1 S0 d0 d1 d2
  have e0 := S1.out.cell 1 rfl (k := 0) rfl
  have e1 := S1.out.cell 1 rfl (k := 1) rfl
  have u0 := S1.out.froz 1 rfl (k := 0)
  have u1 := S1.out.froz 1 rfl (k := 1)
  have S2 := Lib.hid ((S1.out.set 1 rfl (k := 0) (.int .i64 4)).set 1 rfl (k := 1) (.int .i64 0))
  simp only [bestI]
  go_wp2
  have f0 := S2.out.cell 1 rfl (k := 0) rfl
  have f1 := S2.out.cell 1 rfl (k := 1) rfl
  refine bodyPost_ret (v := .tuple #[.slice none 0 0, .agg #[.int .i64 4, .int .i64 0]]) (by simp [results, Try.results47, asAddr, Result.andThen, go_sem, f0, f1]) rfl ?_
  exact ⟨none, 0, Nat.le_refl _, rfl, (S2.out.pick [] (by decide) (by simp)).nilRow 50 2 none⟩

set_option maxRecDepth 100000 in
set_option maxHeartbeats 3200000 in
theorem take_some (A : Option Addr) (n c m i : Nat) (kind at' : Int) (l : List N) (x : N) (w : World) (hr : Rd w w.heap.size 2 A n (l.flatMap ncells)) (hl : l.length = n) (hn : n ≤ 4096) (hch : chAll m (kind == 2) l n = some (i, x)) (hx : x.a + x.m ≤ 4096) :
    Calls Try.prog 47 #[.slice A n c, .agg #[.int .i64 kind, .int .i64 at', .int .i64 (m : Int)]] w (StepRet w (takeL l i m, 0, (x.a : Int))) := by
  obtain ⟨hin, hli, hmx⟩ := chAll_at hch
  have S0 : Hid (Sep w ((w.alloc (.cells #[.int .i64 kind, .int .i64 at', .int .i64 (m : Int)] 39)).alloc (.cells #[.int .i64 0, .int .i64 0] 41)) [.cells w.heap.size 39 [.int .i64 kind, .int .i64 at', .int .i64 (m : Int)], .cells (w.heap.size + 1) 41 [.int .i64 0, .int .i64 0]]) := Lib.hid (by
    have := ((Sep.nil_ w).new 39 [.int .i64 kind, .int .i64 at', .int .i64 (m : Int)]).new 41 [.int .i64 0, .int .i64 0]
    simpa using this)
  have cC := Lib.hid (choose_any A n c m kind at' l _ (hr.later S0.out.below) hl (by omega))
  rw [hch] at cC
  have cL := Lib.hid (fun V (hV : Below w.heap.size w V) => gclone_any A n c (l.flatMap ncells) V (hr.later hV) (gap_one l) (by omega) (by omega))
  have HL := Lib.hid hl
  have HLI := Lib.hid hli
  have HTL : Hid (takeL l i m = if x.m = m then (l.set i ⟨x.a + m, x.m - m⟩).take i ++ (l.set i ⟨x.a + m, x.m - m⟩).drop (i + 1) else l.set i ⟨x.a + m, x.m - m⟩) := Lib.hid (by
    rw [take_set m x l i hli]
    split
    · rw [List.take_set_of_le (Nat.le_refl _), List.drop_set_of_lt (by omega)]
    · rfl)
  clear hr hl hch hli
  go_enter Try.func47, Try.ntmps47
  go_upto_region 1 with (fail)
  generalize ((w.alloc (.cells #[.int .i64 kind, .int .i64 at', .int .i64 (m : Int)] 39)).alloc (.cells #[.int .i64 0, .int .i64 0] 41)) = wo at S0 cC ⊢
  generalize hgo : w.heap.size = go at S0 ⊢
  have d0 := S0.out.cell 0 rfl (k := 0) rfl
  have d1 := S0.out.cell 0 rfl (k := 1) rfl
  have d2 := S0.out.cell 0 rfl (k := 2) rfl
  go_wp2_with fail
  refine cC.out.mono ?_; rintro en w1 ⟨rfl, hb1⟩
  have S1 := Lib.hid (S0.out.later hb1)
  clear hb1 S0 d0 d1 d2
  simp only [bestI]
  have j0 : ¬ (i : Int) < 0 := by omega
  go_wp2_with fail
  refine (cL.out _ S1.out.below).mono ?_; rintro en w2 ⟨A2, c2, hc2, rfl, K2⟩
  have S2 := Lib.hid (S1.out.join K2)
  clear K2 S1 cC cL
  have cx := cell_gap HLI.out
  obtain ⟨g2, rfl, _, hat⟩ := S2.out.rowAt 2 rfl (by omega)
  have a0 := (hat _).1 _ cx.1
  have i0 : (0 : Int) ≤ (i : Int) := by omega
  have i1 : (i : Int) < (n : Int) := by omega
  go_upto_region 6 with (fail)
  have p0 := fun z : LaterOf w2 => z.cell ((hat _).1 _ cx.1)
  have p2 := fun z : LaterOf w2 => z.cell (S2.out.cell 0 rfl (k := 2) rfl)
  clear hat a0
  (refine wp_region_tail 10 (by kernel_rfl) (by kernel_rfl) ?_; simp only [List.take_succ_cons, List.take_zero, List.drop_succ_cons, List.drop_zero]; repeat (go_big_quiet_step (fail)))
  refine wpQuiet_nil ?_; intro xw hw'; obtain ⟨xq, hw''⟩ := hw'; obtain ⟨xw0, xh⟩ := xq; change xw = xw0 at hw''; subst hw''
  have S3 := Lib.hid (S2.out.later xh)
  clear p0 p2 S2
  obtain ⟨g', hg', _, hat⟩ := S3.out.rowAt 2 rfl (by omega)
  cases hg'
  have a0 := (hat _).1 _ cx.1
  have u0 := (hat (i * 2)).2.1
  have K := Lib.hid (S3.out.field ncells_len 2 rfl (by omega) (k := i) (j := 0) (x := x) HLI.out (by omega) ⟨x.a + m, x.m⟩ (.int .i64 ((x.a : Int) + (m : Int))) rfl)
  clear hat S3
  rw [Nat.add_zero] at K
  go_upto_region 7 with (fail)
  generalize xw.setCell ⟨g2, i * 2, none⟩ (.int .i64 ((x.a : Int) + (m : Int))) = w4 at K ⊢
  clear a0 u0 xh
  have hx4 : (l.set i ⟨x.a + m, x.m⟩)[i]? = some ⟨x.a + m, x.m⟩ := by rw [List.getElem?_set, if_pos rfl, if_pos (by rw [HL.out]; exact hin)]
  have cy := cell_gap hx4
  obtain ⟨g', hg', _, hat⟩ := K.out.rowAt 2 rfl (by omega)
  cases hg'
  have p1 := fun z : LaterOf w4 => z.cell ((hat _).1 _ cy.2)
  have p2 := fun z : LaterOf w4 => z.cell (K.out.cell 0 rfl (k := 2) rfl)
  clear hat
  (refine wp_region_tail 10 (by kernel_rfl) (by kernel_rfl) ?_; simp only [List.take_succ_cons, List.take_zero, List.drop_succ_cons, List.drop_zero]; repeat (go_big_quiet_step (fail)))
  refine wpQuiet_nil ?_; intro xw hw'; obtain ⟨xq, hw''⟩ := hw'; obtain ⟨xw0, xh⟩ := xq; change xw = xw0 at hw''; subst hw''
  have S5 := Lib.hid (K.out.later xh)
  clear p1 p2 K
  obtain ⟨g', hg', _, hat⟩ := S5.out.rowAt 2 rfl (by omega)
  cases hg'
  have a1 := (hat _).1 _ cy.2
  have u1 := (hat (i * 2 + 1)).2.1
  have hsub : (x.m : Int) - (m : Int) = ((x.m - m : Nat) : Int) := by omega
  have K2 : Hid _ := Lib.hid (S5.out.field ncells_len 2 rfl (by omega) (k := i) (j := 1) (x := ⟨x.a + m, x.m⟩) hx4 (by omega) ⟨x.a + m, x.m - m⟩ (.int .i64 ((x.m - m : Nat) : Int)) rfl)
  simp only [List.set_set] at K2
  clear hat S5
  go_upto_region 8 with (fail)
  generalize xw.setCell ⟨g2, i * 2 + 1, none⟩ (.int .i64 ((x.m - m : Nat) : Int)) = w6 at K2 ⊢
  clear a1 u1 xh
  have hx6 : (l.set i ⟨x.a + m, x.m - m⟩)[i]? = some ⟨x.a + m, x.m - m⟩ := by rw [List.getElem?_set, if_pos rfl, if_pos (by rw [HL.out]; exact hin)]
  have cz := cell_gap hx6
  obtain ⟨g', hg', _, hat⟩ := K2.out.rowAt 2 rfl (by omega)
  cases hg'
  have a1 := (hat _).1 _ cz.2
  clear hat
  have SA := Lib.hid (K2.out.pick [2, 1] (by decide) (by simp))
  have HLL : Hid ((l.set i ⟨x.a + m, x.m - m⟩).length = n) := Lib.hid (by rw [List.length_set, HL.out])
  by_cases he : x.m = m
  · have HE : Hid (takeL l i m = (l.set i ⟨x.a + m, x.m - m⟩).take i ++ (l.set i ⟨x.a + m, x.m - m⟩).drop (i + 1)) := Lib.hid (by rw [HTL.out, if_pos he])
    have hz : ((x.m - m : Nat) : Int) = 0 := by omega
    obtain ⟨n', hn'⟩ : ∃ n', n = n' + 1 := ⟨n - 1, by omega⟩
    generalize l.set i ⟨x.a + m, x.m - m⟩ = l6 at SA HE HLL
    rw [hz] at a1
    clear HTL cx cy cz hx4 hx6 hsub K2
    subst hn'
    go_wp2_with fail
    refine (delete_any w w6 _ (some ⟨g2, 0, none⟩) n' c2 i _ SA.out (by omega) hc2 (by omega) (gap_one l6)).mono ?_; rintro en w7 ⟨rfl, K7⟩
    have S7 : Hid (Sep w w7 [.row 50 2 (.slice (some ⟨g2, 0, none⟩) n' c2) n' ((takeL l i m).flatMap ncells), .cells (go + 1) 41 [.int .i64 0, .int .i64 0]]) := Lib.hid (by
      rw [HE.out, List.flatMap_append, ← flat_take ncells_len, ← flat_drop ncells_len]
      exact K7)
    have hll : (takeL l i m).length = n' := by rw [HE.out, List.length_append, List.length_take, List.length_drop, HLL.out]; omega
    have HT := Lib.hid hll
    clear K7 SA a1 hll HE
    have e0 := S7.out.cell 1 rfl (k := 0) rfl
    have e1 := S7.out.cell 1 rfl (k := 1) rfl
    have u0 := S7.out.froz 1 rfl (k := 0)
    have u1 := S7.out.froz 1 rfl (k := 1)
    have S8 := Lib.hid ((S7.out.set 1 rfl (k := 0) (.int .i64 0)).set 1 rfl (k := 1) (.int .i64 (x.a : Int)))
    go_wp2
    have f0 := S8.out.cell 1 rfl (k := 0) rfl
    have f1 := S8.out.cell 1 rfl (k := 1) rfl
    refine bodyPost_ret (v := .tuple #[.slice (some ⟨g2, 0, none⟩) n' c2, .agg #[.int .i64 0, .int .i64 (x.a : Int)]]) (by simp [results, Try.results47, asAddr, Result.andThen, go_sem, f0, f1]) rfl ?_
    unfold StepRet
    rw [HT.out]
    exact ⟨_, c2, by omega, rfl, S8.out.pick [0] (by decide) (by simp)⟩
  · have HE : Hid (takeL l i m = l.set i ⟨x.a + m, x.m - m⟩) := Lib.hid (by rw [HTL.out, if_neg he])
    have hz : ¬ ((x.m - m : Nat) : Int) = 0 := by omega
    have hz2 : (((x.m - m : Nat) : Int) == 0) = false := by simp; omega
    generalize l.set i ⟨x.a + m, x.m - m⟩ = l6 at SA HE HLL
    generalize ((x.m - m : Nat) : Int) = y at a1 hz hz2
    clear HTL cx cy cz hx4 hx6 hsub K2
    have e0 := SA.out.cell 1 rfl (k := 0) rfl
    have e1 := SA.out.cell 1 rfl (k := 1) rfl
    have u0 := SA.out.froz 1 rfl (k := 0)
    have u1 := SA.out.froz 1 rfl (k := 1)
    have S8 := Lib.hid ((SA.out.set 1 rfl (k := 0) (.int .i64 0)).set 1 rfl (k := 1) (.int .i64 (x.a : Int)))
    go_wp2
    have f0 := S8.out.cell 1 rfl (k := 0) rfl
    have f1 := S8.out.cell 1 rfl (k := 1) rfl
    refine bodyPost_ret (v := .tuple #[.slice (some ⟨g2, 0, none⟩) n c2, .agg #[.int .i64 0, .int .i64 (x.a : Int)]]) (by simp [results, Try.results47, asAddr, Result.andThen, go_sem, f0, f1]) rfl ?_
    unfold StepRet
    rw [HE.out, HLL.out]
    exact ⟨_, c2, hc2, rfl, S8.out.pick [0] (by decide) (by simp [pickL])⟩
end Sp
end Go.Proofs.Ytakmfjnfkjdbfaa
