/-
  Base texts in one: SpT, SpG, SpG2, SpS, SpPl. Conditions: none beyond each theorem's own premises.
-/
import Derived.Test.YtjopiepfjbnkbaaGreatDoorSpB
import Derived.Test.YtjopiepfjbnkbaaGreatDoorBase
import Derived.BigRegion
import Derived.Test.YtjopiepfjbnkbaaGreatDoorArgs
import Derived.Test.YtjopiepfjbnkbaaGreatDoorParse3
/-! Walk of space.take. Conditions: none. -/
namespace Go.Proofs.YtjopiepfjbnkbaaGreatDoor
open Go.RowKit
set_option linter.unusedVariables false
namespace Sp

set_option maxHeartbeats 800000 in
theorem gclone_any (A : Option Addr) (n c : Nat) (xs : List Value) (w : World) (hr : Rd w w.heap.size 2 A n xs) (h1 : ∀ u ∈ xs, u.oneCell' = true) (hn : n * 16 ≤ 140737488355328) (hm : n ≤ 9223372036854775807) :
    Calls Tryz.prog 71 #[.slice A n c] w (SliceRet w 46 2 n xs) := by
  obtain ⟨ti, hti, t0, t1, t2⟩ := info_parts gap_info
  have HR := Lib.hid hr
  have H1 := Lib.hid h1
  have hnil : ∀ w, (binOp .eql 43 (.slice A n c) (.slice none 0 0)).run Tryz.prog w = .ok (.bool A.isNone) w := fun w => Lib.run_eql_slice_nil w 43 46 A n c 0 0 Tryz.underlying43
  clear hr h1
  cases A with
  | none =>
    obtain rfl : n = 0 := by
      rcases Nat.eq_zero_or_pos n with h | h
      · exact h
      · obtain ⟨b, off, hA, _⟩ := HR.out.2 h; cases hA
    obtain rfl : xs = [] := List.eq_nil_of_length_eq_zero (by have := HR.out.1; omega)
    have hnil' : ∀ w, (binOp .eql 43 (.slice none 0 c) (.slice none 0 0)).run Tryz.prog w = .ok (.bool true) w := hnil
    clear hnil
    go_enter Tryz.func71, Tryz.ntmps71
    go_wp2
    go_ret
    exact ⟨none, 0, Nat.le_refl _, rfl, (Sep.nil_ w).nilRow 46 2 none⟩
  | some a =>
    have hnil' : ∀ w, (binOp .eql 43 (.slice (some a) n c) (.slice none 0 0)).run Tryz.prog w = .ok (.bool false) w := hnil
    clear hnil
    have HS0 : Hid (Sep w (w.alloc (.cells #[] 46)) [.row 46 2 (.slice (some ⟨w.heap.size, 0, none⟩) 0 0) 0 []]) := Lib.hid (((Sep.nil_ w).alloc _).nilRow 46 2 _)
    have HRs := Lib.hid (HR.out.later HS0.out.below)
    go_enter Tryz.func71, Tryz.ntmps71
    go_wp2_with (at_builtin; refine wpList_append_sep HS0.out 0 rfl (.tmp 5) (.tmp 6) 43 rfl 46 ti (.agg #[.int .i64 0, .int .i64 0]) 2 16 Tryz.underlying43 hti t0 t1 t2 rfl (by omega) _ 0 _ rfl rfl _ _ n c _ rfl HRs.out H1.out (by simp only [maxLen]; omega) (by omega) ?_; intro A6 c6 w3 hc6 hs3 HA)
    go_ret
    simp only [Nat.zero_add, List.nil_append] at HA hc6 ⊢
    exact ⟨A6, c6, hc6, rfl, HA⟩

set_option maxRecDepth 100000 in
set_option maxHeartbeats 1600000 in
theorem take_none (A : Option Addr) (n c m : Nat) (kind at' : Int) (l : List N) (w : World) (hr : Rd w w.heap.size 2 A n (l.flatMap ncells)) (hl : l.length = n) (hn : n ≤ 4096) (hch : chAll m (kind == 2) l n = none) :
    Calls Tryz.prog 47 #[.slice A n c, .agg #[.int .i64 kind, .int .i64 at', .int .i64 (m : Int)]] w (StepRet w ([], 4, 0)) := by
  have S0 : Hid (Sep w ((w.alloc (.cells #[.int .i64 kind, .int .i64 at', .int .i64 (m : Int)] 48)).alloc (.cells #[.int .i64 0, .int .i64 0] 55)) [.cells w.heap.size 48 [.int .i64 kind, .int .i64 at', .int .i64 (m : Int)], .cells (w.heap.size + 1) 55 [.int .i64 0, .int .i64 0]]) := Lib.hid (by
    have := ((Sep.nil_ w).new 48 [.int .i64 kind, .int .i64 at', .int .i64 (m : Int)]).new 55 [.int .i64 0, .int .i64 0]
    simpa using this)
  have cC := Lib.hid (choose_any A n c m kind at' l _ (hr.later S0.out.below) hl (by omega))
  rw [hch] at cC
  clear hr hl hch
  go_enter Tryz.func47, Tryz.ntmps47
  go_upto_region 1 with (fail)
  generalize ((w.alloc (.cells #[.int .i64 kind, .int .i64 at', .int .i64 (m : Int)] 48)).alloc (.cells #[.int .i64 0, .int .i64 0] 55)) = wo at S0 cC ⊢
  generalize w.heap.size = go at S0 ⊢
  have d0 := S0.out.cell 0 rfl (k := 0) rfl
  have d1 := S0.out.cell 0 rfl (k := 1) rfl
  have d2 := S0.out.cell 0 rfl (k := 2) rfl
  go_wp2_with fail
  refine cC.out.mono ?_; rintro en w1 ⟨rfl, hb1⟩
  have S1 := Lib.hid (S0.out.later hb1)
  clear hb1 S0 d0 d1 d2
  have e0 := S1.out.cell 1 rfl (k := 0) rfl
  have e1 := S1.out.cell 1 rfl (k := 1) rfl
  have u0 := S1.out.froz 1 rfl (k := 0)
  have u1 := S1.out.froz 1 rfl (k := 1)
  have S2 := Lib.hid ((S1.out.set 1 rfl (k := 0) (.int .i64 4)).set 1 rfl (k := 1) (.int .i64 0))
  simp only [bestI]
  go_wp2
  have f0 := S2.out.cell 1 rfl (k := 0) rfl
  have f1 := S2.out.cell 1 rfl (k := 1) rfl
  refine bodyPost_ret (v := .tuple #[.slice none 0 0, .agg #[.int .i64 4, .int .i64 0]]) (by simp [results, Tryz.results47, asAddr, Result.andThen, go_sem, f0, f1]) rfl ?_
  exact ⟨none, 0, Nat.le_refl _, rfl, (S2.out.pick [] (by decide) (by simp)).nilRow 46 2 none⟩

set_option maxRecDepth 100000 in
set_option maxHeartbeats 3200000 in
theorem take_some (A : Option Addr) (n c m i : Nat) (kind at' : Int) (l : List N) (x : N) (w : World) (hr : Rd w w.heap.size 2 A n (l.flatMap ncells)) (hl : l.length = n) (hn : n ≤ 4096) (hch : chAll m (kind == 2) l n = some (i, x)) (hx : x.a + x.m ≤ 4096) :
    Calls Tryz.prog 47 #[.slice A n c, .agg #[.int .i64 kind, .int .i64 at', .int .i64 (m : Int)]] w (StepRet w (takeL l i m, 0, (x.a : Int))) := by
  obtain ⟨hin, hli, hmx⟩ := chAll_at hch
  have S0 : Hid (Sep w ((w.alloc (.cells #[.int .i64 kind, .int .i64 at', .int .i64 (m : Int)] 48)).alloc (.cells #[.int .i64 0, .int .i64 0] 55)) [.cells w.heap.size 48 [.int .i64 kind, .int .i64 at', .int .i64 (m : Int)], .cells (w.heap.size + 1) 55 [.int .i64 0, .int .i64 0]]) := Lib.hid (by
    have := ((Sep.nil_ w).new 48 [.int .i64 kind, .int .i64 at', .int .i64 (m : Int)]).new 55 [.int .i64 0, .int .i64 0]
    simpa using this)
  have cC := Lib.hid (choose_any A n c m kind at' l _ (hr.later S0.out.below) hl (by omega))
  rw [hch] at cC
  have cL := Lib.hid (fun V (hV : Below w.heap.size w V) => gclone_any A n c (l.flatMap ncells) V (hr.later hV) (gap_one l) (by omega) (by omega))
  have HL := Lib.hid hl
  have HLI := Lib.hid hli
  have HTL : Hid (takeL l i m = if x.m = m then (l.set i ⟨x.a + m, x.m - m⟩).take i ++ (l.set i ⟨x.a + m, x.m - m⟩).drop (i + 1) else l.set i ⟨x.a + m, x.m - m⟩) := Lib.hid (by
    rw [take_set m x l i hli]
    split
    · rw [List.take_set_of_le (Nat.le_refl _), List.drop_set_of_lt (by omega)]
    · rfl)
  clear hr hl hch hli
  go_enter Tryz.func47, Tryz.ntmps47
  go_upto_region 1 with (fail)
  generalize ((w.alloc (.cells #[.int .i64 kind, .int .i64 at', .int .i64 (m : Int)] 48)).alloc (.cells #[.int .i64 0, .int .i64 0] 55)) = wo at S0 cC ⊢
  generalize hgo : w.heap.size = go at S0 ⊢
  have d0 := S0.out.cell 0 rfl (k := 0) rfl
  have d1 := S0.out.cell 0 rfl (k := 1) rfl
  have d2 := S0.out.cell 0 rfl (k := 2) rfl
  go_wp2_with fail
  refine cC.out.mono ?_; rintro en w1 ⟨rfl, hb1⟩
  have S1 := Lib.hid (S0.out.later hb1)
  clear hb1 S0 d0 d1 d2
  simp only [bestI]
  have j0 : ¬ (i : Int) < 0 := by omega
  go_wp2_with fail
  refine (cL.out _ S1.out.below).mono ?_; rintro en w2 ⟨A2, c2, hc2, rfl, K2⟩
  have S2 := Lib.hid (S1.out.join K2)
  clear K2 S1 cC cL
  have cx := cell_gap HLI.out
  obtain ⟨g2, rfl, _, hat⟩ := S2.out.rowAt 2 rfl (by omega)
  have a0 := (hat _).1 _ cx.1
  have i0 : (0 : Int) ≤ (i : Int) := by omega
  have i1 : (i : Int) < (n : Int) := by omega
  go_upto_region 6 with (fail)
  have p0 := fun z : LaterOf w2 => z.cell ((hat _).1 _ cx.1)
  have p2 := fun z : LaterOf w2 => z.cell (S2.out.cell 0 rfl (k := 2) rfl)
  clear hat a0
  (refine wp_region_tail 10 (by kernel_rfl) (by kernel_rfl) ?_; simp only [List.take_succ_cons, List.take_zero, List.drop_succ_cons, List.drop_zero]; repeat (go_big_quiet_step (fail)))
  refine wpQuiet_nil ?_; intro xw hw'; obtain ⟨xq, hw''⟩ := hw'; obtain ⟨xw0, xh⟩ := xq; change xw = xw0 at hw''; subst hw''
  have S3 := Lib.hid (S2.out.later xh)
  clear p0 p2 S2
  obtain ⟨g', hg', _, hat⟩ := S3.out.rowAt 2 rfl (by omega)
  cases hg'
  have a0 := (hat _).1 _ cx.1
  have u0 := (hat (i * 2)).2.1
  have K := Lib.hid (S3.out.field ncells_len 2 rfl (by omega) (k := i) (j := 0) (x := x) HLI.out (by omega) ⟨x.a + m, x.m⟩ (.int .i64 ((x.a : Int) + (m : Int))) rfl)
  clear hat S3
  rw [Nat.add_zero] at K
  go_upto_region 7 with (fail)
  generalize xw.setCell ⟨g2, i * 2, none⟩ (.int .i64 ((x.a : Int) + (m : Int))) = w4 at K ⊢
  clear a0 u0 xh
  have hx4 : (l.set i ⟨x.a + m, x.m⟩)[i]? = some ⟨x.a + m, x.m⟩ := by rw [List.getElem?_set, if_pos rfl, if_pos (by rw [HL.out]; exact hin)]
  have cy := cell_gap hx4
  obtain ⟨g', hg', _, hat⟩ := K.out.rowAt 2 rfl (by omega)
  cases hg'
  have p1 := fun z : LaterOf w4 => z.cell ((hat _).1 _ cy.2)
  have p2 := fun z : LaterOf w4 => z.cell (K.out.cell 0 rfl (k := 2) rfl)
  clear hat
  (refine wp_region_tail 10 (by kernel_rfl) (by kernel_rfl) ?_; simp only [List.take_succ_cons, List.take_zero, List.drop_succ_cons, List.drop_zero]; repeat (go_big_quiet_step (fail)))
  refine wpQuiet_nil ?_; intro xw hw'; obtain ⟨xq, hw''⟩ := hw'; obtain ⟨xw0, xh⟩ := xq; change xw = xw0 at hw''; subst hw''
  have S5 := Lib.hid (K.out.later xh)
  clear p1 p2 K
  obtain ⟨g', hg', _, hat⟩ := S5.out.rowAt 2 rfl (by omega)
  cases hg'
  have a1 := (hat _).1 _ cy.2
  have u1 := (hat (i * 2 + 1)).2.1
  have hsub : (x.m : Int) - (m : Int) = ((x.m - m : Nat) : Int) := by omega
  have K2 : Hid _ := Lib.hid (S5.out.field ncells_len 2 rfl (by omega) (k := i) (j := 1) (x := ⟨x.a + m, x.m⟩) hx4 (by omega) ⟨x.a + m, x.m - m⟩ (.int .i64 ((x.m - m : Nat) : Int)) rfl)
  simp only [List.set_set] at K2
  clear hat S5
  go_upto_region 8 with (fail)
  generalize xw.setCell ⟨g2, i * 2 + 1, none⟩ (.int .i64 ((x.m - m : Nat) : Int)) = w6 at K2 ⊢
  clear a1 u1 xh
  have hx6 : (l.set i ⟨x.a + m, x.m - m⟩)[i]? = some ⟨x.a + m, x.m - m⟩ := by rw [List.getElem?_set, if_pos rfl, if_pos (by rw [HL.out]; exact hin)]
  have cz := cell_gap hx6
  obtain ⟨g', hg', _, hat⟩ := K2.out.rowAt 2 rfl (by omega)
  cases hg'
  have a1 := (hat _).1 _ cz.2
  clear hat
  have SA := Lib.hid (K2.out.pick [2, 1] (by decide) (by simp))
  have HLL : Hid ((l.set i ⟨x.a + m, x.m - m⟩).length = n) := Lib.hid (by rw [List.length_set, HL.out])
  by_cases he : x.m = m
  · have HE : Hid (takeL l i m = (l.set i ⟨x.a + m, x.m - m⟩).take i ++ (l.set i ⟨x.a + m, x.m - m⟩).drop (i + 1)) := Lib.hid (by rw [HTL.out, if_pos he])
    have hz : ((x.m - m : Nat) : Int) = 0 := by omega
    obtain ⟨n', hn'⟩ : ∃ n', n = n' + 1 := ⟨n - 1, by omega⟩
    generalize l.set i ⟨x.a + m, x.m - m⟩ = l6 at SA HE HLL
    rw [hz] at a1
    clear HTL cx cy cz hx4 hx6 hsub K2
    subst hn'
    go_wp2_with fail
    refine (delete_any w w6 _ (some ⟨g2, 0, none⟩) n' c2 i _ SA.out (by omega) hc2 (by omega) (gap_one l6)).mono ?_; rintro en w7 ⟨rfl, K7⟩
    have S7 : Hid (Sep w w7 [.row 46 2 (.slice (some ⟨g2, 0, none⟩) n' c2) n' ((takeL l i m).flatMap ncells), .cells (go + 1) 55 [.int .i64 0, .int .i64 0]]) := Lib.hid (by
      rw [HE.out, List.flatMap_append, ← flat_take ncells_len, ← flat_drop ncells_len]
      exact K7)
    have hll : (takeL l i m).length = n' := by rw [HE.out, List.length_append, List.length_take, List.length_drop, HLL.out]; omega
    have HT := Lib.hid hll
    clear K7 SA a1 hll HE
    have e0 := S7.out.cell 1 rfl (k := 0) rfl
    have e1 := S7.out.cell 1 rfl (k := 1) rfl
    have u0 := S7.out.froz 1 rfl (k := 0)
    have u1 := S7.out.froz 1 rfl (k := 1)
    have S8 := Lib.hid ((S7.out.set 1 rfl (k := 0) (.int .i64 0)).set 1 rfl (k := 1) (.int .i64 (x.a : Int)))
    go_wp2
    have f0 := S8.out.cell 1 rfl (k := 0) rfl
    have f1 := S8.out.cell 1 rfl (k := 1) rfl
    refine bodyPost_ret (v := .tuple #[.slice (some ⟨g2, 0, none⟩) n' c2, .agg #[.int .i64 0, .int .i64 (x.a : Int)]]) (by simp [results, Tryz.results47, asAddr, Result.andThen, go_sem, f0, f1]) rfl ?_
    unfold StepRet
    rw [HT.out]
    exact ⟨_, c2, by omega, rfl, S8.out.pick [0] (by decide) (by simp)⟩
  · have HE : Hid (takeL l i m = l.set i ⟨x.a + m, x.m - m⟩) := Lib.hid (by rw [HTL.out, if_neg he])
    have hz : ¬ ((x.m - m : Nat) : Int) = 0 := by omega
    have hz2 : (((x.m - m : Nat) : Int) == 0) = false := by simp; omega
    generalize l.set i ⟨x.a + m, x.m - m⟩ = l6 at SA HE HLL
    generalize ((x.m - m : Nat) : Int) = y at a1 hz hz2
    clear HTL cx cy cz hx4 hx6 hsub K2
    have e0 := SA.out.cell 1 rfl (k := 0) rfl
    have e1 := SA.out.cell 1 rfl (k := 1) rfl
    have u0 := SA.out.froz 1 rfl (k := 0)
    have u1 := SA.out.froz 1 rfl (k := 1)
    have S8 := Lib.hid ((SA.out.set 1 rfl (k := 0) (.int .i64 0)).set 1 rfl (k := 1) (.int .i64 (x.a : Int)))
    go_wp2
    have f0 := S8.out.cell 1 rfl (k := 0) rfl
    have f1 := S8.out.cell 1 rfl (k := 1) rfl
    refine bodyPost_ret (v := .tuple #[.slice (some ⟨g2, 0, none⟩) n c2, .agg #[.int .i64 0, .int .i64 (x.a : Int)]]) (by simp [results, Tryz.results47, asAddr, Result.andThen, go_sem, f0, f1]) rfl ?_
    unfold StepRet
    rw [HE.out, HLL.out]
    exact ⟨_, c2, hc2, rfl, S8.out.pick [0] (by decide) (by simp [pickL])⟩
end Sp
end Go.Proofs.YtjopiepfjbnkbaaGreatDoor
/-! Walk of space.give. Conditions: none. -/
namespace Go.Proofs.YtjopiepfjbnkbaaGreatDoor
open Go.RowKit
set_option linter.unusedVariables false
namespace Sp

set_option maxHeartbeats 800000 in
/-- the closure: does gap x lie behind g? -/
theorem behind_any (x g : N) (gb : Nat) (w : World) (hg : w.cell? ⟨gb, 0, none⟩ = some (.int .i64 (g.a : Int))) :
    Calls Tryz.prog 68 #[.agg #[.int .i64 (x.a : Int), .int .i64 (x.m : Int)], .pointer (some ⟨gb, 0, none⟩)] w (Ret w (.bool (decide (g.a < x.a)))) := by
  have hS := (Sep.nil_ w).new 46 [.int .i64 (x.a : Int), .int .i64 (x.m : Int)]
  have S0 := Lib.hid hS
  have d0 := hS.cell 0 rfl (k := 0) rfl
  have e0 := (hS.below.cell (World.block_lt_of_cell? w _ hg)).trans hg
  clear hS hg
  have key : decide ((g.a : Int) < (x.a : Int)) = decide (g.a < x.a) := by
    by_cases h : g.a < x.a
    · rw [decide_eq_true h, decide_eq_true (by omega)]
    · rw [decide_eq_false h, decide_eq_false (by omega)]
  go_enter Tryz.func68, Tryz.ntmps68
  go_wp2
  go_ret
  exact Ret.mk (by simp) S0.out.below

/-- the first place behind which g does not belong -/
def insAt (g : N) : List N → Nat
  | [] => 0
  | x :: t => if g.a < x.a then 0 else insAt g t + 1
theorem insAt_le (g : N) : ∀ l : List N, insAt g l ≤ l.length
  | [] => Nat.zero_le _
  | x :: t => by
    rw [insAt]
    split
    · exact Nat.zero_le _
    · have := insAt_le g t
      rw [List.length_cons]
      omega
theorem insAt_low (g : N) : ∀ (l : List N) (i : Nat) (x : N), i < insAt g l → l[i]? = some x → ¬ g.a < x.a
  | [], i, x, h, hx => by simp at hx
  | y :: t, 0, x, h, hx => by
    simp at hx
    subst hx
    rw [insAt] at h
    intro hlt
    rw [if_pos hlt] at h
    omega
  | y :: t, i + 1, x, h, hx => by
    rw [insAt] at h
    split at h
    · omega
    · exact insAt_low g t i x (by omega) (by simpa using hx)
theorem insAt_hit (g : N) : ∀ (l : List N) (x : N), l[insAt g l]? = some x → g.a < x.a
  | [], x, hx => by simp at hx
  | y :: t, x, hx => by
    rw [insAt] at hx
    split at hx
    · simp at hx
      subst hx
      assumption
    · exact insAt_hit g t x (by simpa using hx)
theorem ins_at (g : N) : ∀ l : List N, ins g l = l.take (insAt g l) ++ (g :: l.drop (insAt g l))
  | [] => rfl
  | x :: t => by
    rw [ins, insAt]
    split
    · rfl
    · rw [ins_at g t]
      rfl
/-- the place as slices.IndexFunc tells it -/
def insI (g : N) (l : List N) : Int := if insAt g l < l.length then (insAt g l : Int) else -1

set_option maxRecDepth 100000 in
set_option maxHeartbeats 1600000 in
theorem index_any (A : Option Addr) (n c gb : Nat) (l : List N) (g : N) (w : World) (hr : Rd w w.heap.size 2 A n (l.flatMap ncells)) (hl : l.length = n) (hn : n ≤ 9223372036854775807) (hg : w.cell? ⟨gb, 0, none⟩ = some (.int .i64 (g.a : Int))) :
    Calls Tryz.prog 32 #[.slice A n c, .func (.func 68) #[] #[.pointer (some ⟨gb, 0, none⟩)]] w (Ret w (.int .i64 (insI g l))) := by
  have HR := Lib.hid hr
  have HL := Lib.hid hl
  have HG := Lib.hid hg
  have hle := insAt_le g l
  rw [hl] at hle
  have HF : Hid (insI g l = if insAt g l < n then (insAt g l : Int) else -1) := Lib.hid (by rw [insI, hl])
  have HLO := Lib.hid (insAt_low g l)
  have HHI := Lib.hid (insAt_hit g l)
  generalize insI g l = out at HF ⊢
  generalize insAt g l = p at hle HF HLO HHI
  have hgb := World.block_lt_of_cell? w _ hg
  have eg := enters_of Tryz.func68 (by kernel_rfl) rfl
  clear hr hl hg
  go_enter Tryz.func32, Tryz.ntmps32
  go_wp2
  go_loopg [8] n (fun q i wr => ∃ (k : Nat), k ≤ n ∧ k ≤ p ∧ q = n - k ∧ i = .int .i64 k ∧ Sep w wr [])
  case atStart => exact ⟨0, Nat.zero_le _, Nat.zero_le _, rfl, rfl, Sep.nil_ w⟩
  case round =>
    obtain ⟨k, hk, hkp, rfl, rfl, hs⟩ := hrel
    have HS := Lib.hid hs
    clear hs
    by_cases hlt : k < n
    · obtain ⟨b, off, rfl, hb, hc⟩ := HR.out.at_ ncells_len (by omega)
      obtain ⟨x, hx⟩ : ∃ x, l[k]? = some x := ⟨_, List.getElem?_eq_getElem (by rw [HL.out]; exact hlt)⟩
      have d0 : wr.cell? ⟨b, off + k * 2, none⟩ = some (.int .i64 (x.a : Int)) := (HS.out.below.cell hb).trans (hc k 0 x _ hx rfl)
      have d1 : wr.cell? ⟨b, off + k * 2 + 1, none⟩ = some (.int .i64 (x.m : Int)) := (HS.out.below.cell hb).trans (hc k 1 x _ hx rfl)
      have i0 : (0 : Int) ≤ (k : Int) := by omega
      have i1 : (k : Int) < (n : Int) := by omega
      have HX := Lib.hid hx
      have cB := Lib.hid (behind_any x g gb wr ((HS.out.below.cell hgb).trans HG.out))
      clear hc hx
      by_cases hgx : g.a < x.a
      · have hpk : k = p := by
          rcases Nat.lt_or_ge k p with h | h
          · exact absurd hgx (HLO.out k x h HX.out)
          · omega
        rw [decide_eq_true hgx] at cB
        have HE : Hid ((k : Int) = out) := Lib.hid (by rw [HF.out, if_pos (by omega), hpk])
        clear hpk
        go_wp2_with fail
        refine cB.out.mono ?_; rintro en w1 ⟨rfl, hb1⟩
        have S1 := Lib.hid (HS.out.later hb1)
        go_wp2
        go_ret
        exact Ret.mk (int_eq HE.out) S1.out.below
      · have hpk : k < p := by
          rcases Nat.lt_or_ge k p with h | h
          · exact h
          · obtain rfl : k = p := by omega
            exact absurd (HHI.out x HX.out) hgx
        rw [decide_eq_false hgx] at cB
        go_wp2_with fail
        refine cB.out.mono ?_; rintro en w1 ⟨rfl, hb1⟩
        have S1 := Lib.hid (HS.out.later hb1)
        go_wp2
        go_roundg (n - (k + 1))
        case measure => omega
        case rel => exact ⟨k + 1, by omega, by omega, rfl, by go_num, S1.out⟩
    · have HE : Hid ((-1 : Int) = out) := Lib.hid (by rw [HF.out, if_neg (by omega)])
      go_wp2
      go_ret
      exact Ret.mk (int_eq HE.out) HS.out.below
end Sp
end Go.Proofs.YtjopiepfjbnkbaaGreatDoor
/-! Walk of space.give. Conditions: none. -/
namespace Go.Proofs.YtjopiepfjbnkbaaGreatDoor
open Go.RowKit
set_option linter.unusedVariables false
namespace Sp

theorem ncells_one (g : N) : ∀ u ∈ ncells g, u.oneCell' = true := by
  intro u hu
  simp [ncells, G.of, G.cells] at hu
  rcases hu with rfl | rfl <;> rfl
theorem hits_cons (x : N) (t : List N) (a m : Nat) : hitsB (x :: t) a m = (decide (x.a < a + m) && decide (a < x.a + x.m) || hitsB t a m) := rfl

set_option maxRecDepth 100000 in
set_option maxHeartbeats 1600000 in
theorem give_out (A : Option Addr) (n c S : Nat) (kind at' many : Int) (w : World) (hS : S ≤ 4096) (hm : 1 ≤ many) (hmS : many ≤ S) (ho : at' < 0 ∨ (S : Int) - many < at') :
    Calls Tryz.prog 46 #[.int .i64 (S : Int), .slice A n c, .agg #[.int .i64 kind, .int .i64 at', .int .i64 many]] w (StepRet w ([], 2, 0)) := by
  have S0 : Hid (Sep w ((w.alloc (.cells #[.int .i64 kind, .int .i64 at', .int .i64 many] 48)).alloc (.cells #[.int .i64 0, .int .i64 0] 55)) [.cells w.heap.size 48 [.int .i64 kind, .int .i64 at', .int .i64 many], .cells (w.heap.size + 1) 55 [.int .i64 0, .int .i64 0]]) := Lib.hid (by
    have := ((Sep.nil_ w).new 48 [.int .i64 kind, .int .i64 at', .int .i64 many]).new 55 [.int .i64 0, .int .i64 0]
    simpa using this)
  have H := Lib.hid ho
  clear ho
  go_enter Tryz.func46, Tryz.ntmps46
  go_upto_region 1 with (fail)
  generalize ((w.alloc (.cells #[.int .i64 kind, .int .i64 at', .int .i64 many] 48)).alloc (.cells #[.int .i64 0, .int .i64 0] 55)) = wo at S0 ⊢
  generalize w.heap.size = go at S0 ⊢
  have d1 := S0.out.cell 0 rfl (k := 1) rfl
  have d2 := S0.out.cell 0 rfl (k := 2) rfl
  have e0 := S0.out.cell 1 rfl (k := 0) rfl
  have e1 := S0.out.cell 1 rfl (k := 1) rfl
  have u0 := S0.out.froz 1 rfl (k := 0)
  have u1 := S0.out.froz 1 rfl (k := 1)
  have S2 := Lib.hid ((S0.out.set 1 rfl (k := 0) (.int .i64 2)).set 1 rfl (k := 1) (.int .i64 0))
  have f0 := S2.out.cell 1 rfl (k := 0) rfl
  have f1 := S2.out.cell 1 rfl (k := 1) rfl
  by_cases h0 : at' < 0
  · go_wp2
    refine bodyPost_ret (v := .tuple #[.slice none 0 0, .agg #[.int .i64 2, .int .i64 0]]) (by simp [results, Tryz.results46, asAddr, Result.andThen, go_sem, f0, f1]) rfl ?_
    exact ⟨none, 0, Nat.le_refl _, rfl, (S2.out.pick [] (by decide) (by simp)).nilRow 46 2 none⟩
  · have h1 : (S : Int) - many < at' := H.out.resolve_left h0
    go_wp2
    refine bodyPost_ret (v := .tuple #[.slice none 0 0, .agg #[.int .i64 2, .int .i64 0]]) (by simp [results, Tryz.results46, asAddr, Result.andThen, go_sem, f0, f1]) rfl ?_
    exact ⟨none, 0, Nat.le_refl _, rfl, (S2.out.pick [] (by decide) (by simp)).nilRow 46 2 none⟩

set_option maxRecDepth 100000 in
set_option maxHeartbeats 6400000 in
theorem give_any (A : Option Addr) (n c S a m : Nat) (kind : Int) (l : List N) (w : World) (hr : Rd w w.heap.size 2 A n (l.flatMap ncells)) (hl : l.length = n) (hn : n ≤ 4096) (hS : S ≤ 4096) (hm : 1 ≤ m) (ham : a + m ≤ S) (hok : Ok S 0 l) :
    Calls Tryz.prog 46 #[.int .i64 (S : Int), .slice A n c, .agg #[.int .i64 kind, .int .i64 (a : Int), .int .i64 (m : Int)]] w (StepRet w (if hitsB l a m then ([], 6, 0) else (giveL l a m, 0, (a : Int)))) := by
  obtain ⟨ti, hti, t0, t1, t2⟩ := info_parts gap_info
  have S0 : Hid (Sep w ((w.alloc (.cells #[.int .i64 kind, .int .i64 (a : Int), .int .i64 (m : Int)] 48)).alloc (.cells #[.int .i64 0, .int .i64 0] 55)) [.cells w.heap.size 48 [.int .i64 kind, .int .i64 (a : Int), .int .i64 (m : Int)], .cells (w.heap.size + 1) 55 [.int .i64 0, .int .i64 0]]) := Lib.hid (by
    have := ((Sep.nil_ w).new 48 [.int .i64 kind, .int .i64 (a : Int), .int .i64 (m : Int)]).new 55 [.int .i64 0, .int .i64 0]
    simpa using this)
  have HR := Lib.hid hr
  have HL := Lib.hid hl
  have HMS := Lib.hid (ok_mem hok)
  obtain ⟨res, hres⟩ : ∃ r, r = (if hitsB l a m then (([] : List N), (6 : Int), (0 : Int)) else (giveL l a m, 0, (a : Int))) := ⟨_, rfl⟩
  rw [← hres]
  have HRES := Lib.hid hres
  clear hres
  have o0 : ¬ (a : Int) < 0 := by omega
  have o1 : ¬ (S : Int) - (m : Int) < (a : Int) := by omega
  clear hr hl hok
  go_enter Tryz.func46, Tryz.ntmps46
  go_upto_region 1 with (fail)
  generalize ((w.alloc (.cells #[.int .i64 kind, .int .i64 (a : Int), .int .i64 (m : Int)] 48)).alloc (.cells #[.int .i64 0, .int .i64 0] 55)) = wo at S0 ⊢
  generalize w.heap.size + 1 = ga at S0 ⊢
  generalize hgo : w.heap.size = go at S0 ⊢
  have d1 := S0.out.cell 0 rfl (k := 1) rfl
  have d2 := S0.out.cell 0 rfl (k := 2) rfl
  go_upto_region 3 with (fail)
  have S1 : Hid (Sep w (wo.alloc (.cells #[.int .i64 (a : Int), .int .i64 (m : Int)] 46)) ([.cells go 48 [.int .i64 kind, .int .i64 (a : Int), .int .i64 (m : Int)], .cells ga 55 [.int .i64 0, .int .i64 0], .cells wo.heap.size 46 (ncells ⟨a, m⟩), .row 46 2 (.slice none 0 0) 0 (([] : List N).flatMap ncells)])) := Lib.hid ((S0.out.new 46 (ncells ⟨a, m⟩)).nilRow 46 2 none)
  have HOB := Lib.hid S0.out.below
  go_upto_region 4 with (fail)
  generalize wo.alloc (.cells #[.int .i64 (a : Int), .int .i64 (m : Int)] 46) = w1 at S1 ⊢
  generalize wo.heap.size = gg at S1 ⊢
  clear S0 d1 d2 HOB wo
  go_wp2
  go_loopg [9, 33] n (fun q v9 i wr => ∃ (k no c9 : Nat) (A9 : Option Addr) (out : List N) (g : N), k ≤ n ∧ q = n - k ∧ i = .int .i64 k ∧ v9 = .slice A9 no c9 ∧ no ≤ c9 ∧ no ≤ k ∧ Hid (out.length = no) ∧ g.a + g.m ≤ S ∧ Hid ((l.drop k).foldl giveStep (out, g) = giveP l a m) ∧ Hid (hitsB (l.drop k) a m = hitsB l a m) ∧ Sep w wr [.cells go 48 [.int .i64 kind, .int .i64 (a : Int), .int .i64 (m : Int)], .cells ga 55 [.int .i64 0, .int .i64 0], .cells gg 46 (ncells g), .row 46 2 (.slice A9 no c9) no (out.flatMap ncells)])
  case atStart => exact ⟨0, 0, 0, none, [], ⟨a, m⟩, Nat.zero_le _, rfl, rfl, rfl, Nat.le_refl _, Nat.le_refl _, Lib.hid rfl, ham, Lib.hid rfl, Lib.hid rfl, S1.out⟩
  case round =>
    clear S1 w1
    obtain ⟨k, no, c9, A9, out, g, hk, rfl, rfl, rfl, hc9, hnk, HNO, hgS, HF, HH, hs⟩ := hrel
    have HS := Lib.hid hs
    clear hs
    have HC9 := Lib.hid hc9
    by_cases hlt : k < n
    · obtain ⟨b, off, rfl, hb, hc⟩ := HR.out.at_ ncells_len (by omega)
      obtain ⟨x, hx⟩ : ∃ x, l[k]? = some x := ⟨_, List.getElem?_eq_getElem (by rw [HL.out]; exact hlt)⟩
      have d0 : wr.cell? ⟨b, off + k * 2, none⟩ = some (.int .i64 (x.a : Int)) := (HS.out.below.cell hb).trans (hc k 0 x _ hx rfl)
      have d1 : wr.cell? ⟨b, off + k * 2 + 1, none⟩ = some (.int .i64 (x.m : Int)) := (HS.out.below.cell hb).trans (hc k 1 x _ hx rfl)
      have i0 : (0 : Int) ≤ (k : Int) := by omega
      have i1 : (k : Int) < (n : Int) := by omega
      obtain ⟨hx1, hx2⟩ := HMS.out x (List.mem_of_getElem? hx)
      have HF2 : Hid ((l.drop (k + 1)).foldl giveStep (giveStep (out, g) x) = giveP l a m) := Lib.hid (by rw [← HF.out, drop_at hx]; rfl)
      have HH2 : Hid (hitsB l a m = (decide (x.a < a + m) && decide (a < x.a + x.m) || hitsB (l.drop (k + 1)) a m)) := Lib.hid (by rw [← HH.out, drop_at hx]; rfl)
      have HS1 : Hid (Sep w (wr.alloc (.cells #[.int .i64 (x.a : Int), .int .i64 (x.m : Int)] 46)) [.cells go 48 [.int .i64 kind, .int .i64 (a : Int), .int .i64 (m : Int)], .cells ga 55 [.int .i64 0, .int .i64 0], .cells gg 46 (ncells g), .row 46 2 (.slice A9 no c9) no (out.flatMap ncells), .cells wr.heap.size 46 (ncells x)]) := Lib.hid (HS.out.new 46 (ncells x))
      clear hc hx HF HH
      go_upto_region 8 with (fail)
      generalize wr.alloc (.cells #[.int .i64 (x.a : Int), .int .i64 (x.m : Int)] 46) = wq at HS1 ⊢
      generalize wr.heap.size = gx at HS1 ⊢
      clear HS d0 d1
      have d1 := HS1.out.cell 0 rfl (k := 1) rfl
      have d2 := HS1.out.cell 0 rfl (k := 2) rfl
      have p0 : wq.cell? ⟨gx, 0, none⟩ = some (.int .i64 (x.a : Int)) := HS1.out.cell 4 rfl (k := 0) rfl
      have p1 : wq.cell? ⟨gx, 1, none⟩ = some (.int .i64 (x.m : Int)) := HS1.out.cell 4 rfl (k := 1) rfl
      have q0 : wq.cell? ⟨gg, 0, none⟩ = some (.int .i64 (g.a : Int)) := HS1.out.cell 2 rfl (k := 0) rfl
      have q1 : wq.cell? ⟨gg, 1, none⟩ = some (.int .i64 (g.m : Int)) := HS1.out.cell 2 rfl (k := 1) rfl
      by_cases hhit : x.a < a + m ∧ a < x.a + x.m
      · obtain ⟨h1, h2⟩ := hhit
        have HE : Hid (hitsB l a m = true) := Lib.hid (by rw [HH2.out, decide_eq_true h1, decide_eq_true h2]; rfl)
        have h1' : (x.a : Int) < (a : Int) + (m : Int) := by omega
        have h2' : (a : Int) < (x.a : Int) + (x.m : Int) := by omega
        have e0 := HS1.out.cell 1 rfl (k := 0) rfl
        have e1 := HS1.out.cell 1 rfl (k := 1) rfl
        have u0 := HS1.out.froz 1 rfl (k := 0)
        have u1 := HS1.out.froz 1 rfl (k := 1)
        have S2 := Lib.hid ((HS1.out.set 1 rfl (k := 0) (.int .i64 6)).set 1 rfl (k := 1) (.int .i64 0))
        have f0 := S2.out.cell 1 rfl (k := 0) rfl
        have f1 := S2.out.cell 1 rfl (k := 1) rfl
        clear HH2 HF2
        go_wp2
        refine bodyPost_ret (v := .tuple #[.slice none 0 0, .agg #[.int .i64 6, .int .i64 0]]) (by simp [results, Tryz.results46, asAddr, Result.andThen, go_sem, f0, f1]) rfl ?_
        rw [HRES.out, if_pos HE.out]
        exact ⟨none, 0, Nat.le_refl _, rfl, (S2.out.pick [] (by decide) (by simp)).nilRow 46 2 none⟩
      · have HE : Hid (hitsB (l.drop (k + 1)) a m = hitsB l a m) := Lib.hid (by
          rw [HH2.out]
          have : (decide (x.a < a + m) && decide (a < x.a + x.m)) = false := by rw [Bool.and_eq_false_iff]; simp; omega
          rw [this, Bool.false_or])
        have hh' : ¬ ((x.a : Int) < (a : Int) + (m : Int)) ∨ ((x.a : Int) < (a : Int) + (m : Int) ∧ ¬ (a : Int) < (x.a : Int) + (x.m : Int)) := by omega
        have HHH := Lib.hid hh'
        clear HH2 hhit hh'
        by_cases hja : x.a + x.m = g.a
        · have HG2 : Hid (giveStep (out, g) x = (out, ⟨x.a, g.m + x.m⟩)) := Lib.hid (by simp [giveStep, hja])
          rw [HG2.out] at HF2
          have j1 : (x.a : Int) + (x.m : Int) = (g.a : Int) := by omega
          have u0 := HS1.out.froz 2 rfl (k := 0)
          have u1 := HS1.out.froz 2 rfl (k := 1)
          have K : Hid (Sep w ((wq.setCell ⟨gg, 0, none⟩ (.int .i64 (x.a : Int))).setCell ⟨gg, 1, none⟩ (.int .i64 ((g.m : Int) + (x.m : Int)))) [.cells go 48 [.int .i64 kind, .int .i64 (a : Int), .int .i64 (m : Int)], .cells ga 55 [.int .i64 0, .int .i64 0], .cells gg 46 (ncells ⟨x.a, g.m + x.m⟩), .row 46 2 (.slice A9 no c9) no (out.flatMap ncells)]) := Lib.hid (((HS1.out.set 2 rfl (k := 0) (.int .i64 (x.a : Int))).set 2 rfl (k := 1) (.int .i64 ((g.m : Int) + (x.m : Int)))).pick [0, 1, 2, 3] (by decide) (by simp))
          rcases HHH.out with h1 | ⟨h1, h2⟩
          all_goals
            go_upto_region 12 with (fail)
            go_region
            all_goals
              go_wp2
              go_roundg (n - (k + 1))
              case measure => omega
              case rel => exact ⟨k + 1, no, c9, A9, out, ⟨x.a, g.m + x.m⟩, by omega, rfl, by go_num, rfl, hc9, by omega, HNO, by simp; omega, HF2, HE, K.out.drew⟩
        by_cases hjb : g.a + g.m = x.a
        · have HG2 : Hid (giveStep (out, g) x = (out, ⟨g.a, g.m + x.m⟩)) := Lib.hid (by simp [giveStep, hja, hjb])
          rw [HG2.out] at HF2
          have j1 : ¬ (x.a : Int) + (x.m : Int) = (g.a : Int) := by omega
          have j2 : (g.a : Int) + (g.m : Int) = (x.a : Int) := by omega
          have u1 := HS1.out.froz 2 rfl (k := 1)
          have K : Hid (Sep w (wq.setCell ⟨gg, 1, none⟩ (.int .i64 ((g.m : Int) + (x.m : Int)))) [.cells go 48 [.int .i64 kind, .int .i64 (a : Int), .int .i64 (m : Int)], .cells ga 55 [.int .i64 0, .int .i64 0], .cells gg 46 (ncells ⟨g.a, g.m + x.m⟩), .row 46 2 (.slice A9 no c9) no (out.flatMap ncells)]) := Lib.hid ((HS1.out.set 2 rfl (k := 1) (.int .i64 ((g.m : Int) + (x.m : Int)))).pick [0, 1, 2, 3] (by decide) (by simp))
          rcases HHH.out with h1 | ⟨h1, h2⟩
          all_goals
            go_wp2
            go_roundg (n - (k + 1))
            case measure => omega
            case rel => exact ⟨k + 1, no, c9, A9, out, ⟨g.a, g.m + x.m⟩, by omega, rfl, by go_num, rfl, hc9, by omega, HNO, by simp; omega, HF2, HE, K.out⟩
        · have HG2 : Hid (giveStep (out, g) x = (out ++ [x], g)) := Lib.hid (by simp [giveStep, hja, hjb])
          rw [HG2.out] at HF2
          have j1 : ¬ (x.a : Int) + (x.m : Int) = (g.a : Int) := by omega
          have j2 : ¬ (g.a : Int) + (g.m : Int) = (x.a : Int) := by omega
          have HN2 : Hid ((out ++ [x]).length = no + 1) := Lib.hid (by rw [List.length_append, HNO.out]; rfl)
          have hnew := Lib.hid (Rd.of_own (own_new wq 46 #[.int .i64 (x.a : Int), .int .i64 (x.m : Int)] 2 1 rfl (by simp [maxLen]) (Nat.le_refl _)))
          rcases HHH.out with h1 | ⟨h1, h2⟩
          all_goals
            go_wp2_with (at_builtin; refine wpList_append_sep (HS1.out.alloc _) 3 rfl (.tmp 56) (.tmp 58) 43 rfl 46 ti (.agg #[.int .i64 0, .int .i64 0]) 2 16 Tryz.underlying43 hti t0 t1 t2 rfl (by omega) _ no _ rfl rfl _ _ 1 1 _ rfl hnew.out (by simp [Value.oneCell']) (by simp only [maxLen]; omega) (by omega) ?_; intro A6 c6 w6 hc6 hs6 H6'; have H6 := Lib.hid H6'; clear H6')
            have HB : Hid (Sep w w6 [.cells go 48 [.int .i64 kind, .int .i64 (a : Int), .int .i64 (m : Int)], .cells ga 55 [.int .i64 0, .int .i64 0], .cells gg 46 (ncells g), .row 46 2 (.slice A6 (no + 1) c6) (no + 1) ((out ++ [x]).flatMap ncells)]) := Lib.hid (by rw [List.flatMap_append]; exact H6.out.pick [0, 1, 2, 3] (by decide) (by simp))
            go_roundg (n - (k + 1))
            case measure => omega
            case rel => exact ⟨k + 1, no + 1, c6, A6, out ++ [x], g, by omega, rfl, by go_num, rfl, hc6, by omega, HN2, hgS, HF2, HE, HB.out⟩
    · have HFE : Hid (giveP l a m = (out, g)) := Lib.hid (by rw [← HF.out, List.drop_of_length_le (by rw [HL.out]; omega)]; rfl)
      have HHE : Hid (hitsB l a m = false) := Lib.hid (by rw [← HH.out, List.drop_of_length_le (by rw [HL.out]; omega)]; rfl)
      have cI := Lib.hid (fun V hV hg => index_any A9 no c9 gg out g V hV HNO.out (by omega) hg)
      have hple := insAt_le g out
      rw [HNO.out] at hple
      have HP : Hid (insI g out = if insAt g out < no then (insAt g out : Int) else -1) := Lib.hid (by rw [insI, HNO.out])
      have HFIN : Hid (∀ A' c' w', no + 1 ≤ c' → Sep w w' [.row 46 2 (.slice A' (no + 1) c') (no + 1) ((out.flatMap ncells).take (insAt g out * 2) ++ (ncells g ++ (out.flatMap ncells).drop (insAt g out * 2)))] → StepRet w res (.returned (.tuple #[.slice A' (no + 1) c', .agg #[.int .i64 0, .int .i64 (a : Int)]])) w') := Lib.hid (by
        intro A' c' w' hc' hS'
        rw [HRES.out, HHE.out, if_neg (by decide)]
        have e : giveL l a m = out.take (insAt g out) ++ (g :: out.drop (insAt g out)) := by rw [giveL, HFE.out]; exact ins_at g out
        have hlen : (giveL l a m).length = no + 1 := by rw [e]; simp; have := HNO.out; omega
        unfold StepRet
        rw [hlen]
        refine ⟨A', c', hc', rfl, ?_⟩
        rw [e, List.flatMap_append, List.flatMap_cons, ← flat_take ncells_len, ← flat_drop ncells_len]
        exact hS')
      clear HF HH HFE HHE HR HL HMS HRES
      generalize insI g out = v12 at HP cI
      generalize insAt g out = p at hple HP HFIN
      have HPN := Lib.hid hple
      have HS3 : Hid (Rd wr wr.heap.size 2 A9 no (out.flatMap ncells)) := Lib.hid (HS.out.rd 3 rfl)
      have cI2 := Lib.hid (cI.out wr HS3.out (HS.out.cell 2 rfl (k := 0) rfl))
      go_wp2_with fail
      refine cI2.out.mono ?_; rintro en w2 ⟨rfl, hb2⟩
      have HS2 := Lib.hid (HS.out.later hb2)
      clear cI cI2 HS HS3 hb2
      by_cases hpn : p < no
      · obtain rfl : v12 = (p : Int) := by rw [HP.out, if_pos hpn]
        have v0 : ¬ (p : Int) < 0 := by omega
        have HS : Hid (Sep w w2 [.row 46 2 (.slice A9 no c9) no (out.flatMap ncells), .cells go 48 [.int .i64 kind, .int .i64 (a : Int), .int .i64 (m : Int)], .cells ga 55 [.int .i64 0, .int .i64 0], .cells gg 46 (ncells g)]) := Lib.hid (HS2.out.pick [3, 0, 1, 2] (by decide) (by simp))
        clear HS2
        go_upto_region 19 with (fail)
        refine wp_region_inv0 (fun ac0 L ac w' => ∃ x6 x101 x102 x103 x104 x105 x106 x107 x108, ac = turn ac0 [(6, x6), (101, x101), (102, x102), (103, x103), (104, x104), (105, x105), (106, x106), (107, x107), (108, x108)] ∧ (L 0 = true → x101 = .slice A9 no c9) ∧ (L 1 = true → x102 = .int .i64 (p : Int)) ∧ (L 2 = true → x103 = .agg #[.int .i64 (g.a : Int), .int .i64 (g.m : Int)]) ∧ (L 5 = true → x106 = .pointer (some ⟨go, 1, none⟩)) ∧ (L 6 = true → x107 = .int .i64 (a : Int)) ∧ (L 7 = true → x108 = .agg #[.int .i64 0, .int .i64 (a : Int)]) ∧ (L 8 = true → x6 = x105) ∧ (L 3 = true → L 2 = true) ∧ (L 4 = true → L 0 = true ∧ L 1 = true ∧ L 3 = true) ∧ (L 6 = true → L 5 = true) ∧ (L 7 = true → L 6 = true) ∧ (L 8 = true → L 0 = true ∧ L 1 = true ∧ L 2 = true ∧ L 3 = true ∧ L 4 = true) ∧ (L 9 = true → L 0 = true ∧ L 1 = true ∧ L 2 = true ∧ L 3 = true ∧ L 4 = true ∧ L 5 = true ∧ L 6 = true ∧ L 7 = true ∧ L 8 = true) ∧ (if L 9 = true then (∃ A' c', x105 = .slice A' (no + 1) c' ∧ no + 1 ≤ c' ∧ Sep w w' [.row 46 2 (.slice A' (no + 1) c') (no + 1) ((out.flatMap ncells).take (p * 2) ++ (ncells g ++ (out.flatMap ncells).drop (p * 2))), .cells go 48 [.int .i64 kind, .int .i64 (a : Int), .int .i64 (m : Int)], .cells ga 55 [.int .i64 0, .int .i64 (a : Int)], .cells gg 46 (ncells g)]) else (if L 4 = true then (∃ A' c', x105 = .slice A' (no + 1) c' ∧ no + 1 ≤ c' ∧ Sep w w' [.row 46 2 (.slice A' (no + 1) c') (no + 1) ((out.flatMap ncells).take (p * 2) ++ (ncells g ++ (out.flatMap ncells).drop (p * 2))), .cells go 48 [.int .i64 kind, .int .i64 (a : Int), .int .i64 (m : Int)], .cells ga 55 [.int .i64 0, .int .i64 0], .cells gg 46 (ncells g)]) else (if L 3 = true then (∃ gv, x104 = .slice (some ⟨gv, 0, none⟩) 1 1 ∧ Sep w w' [.row 46 2 (.slice A9 no c9) no (out.flatMap ncells), .cells gv 46 (ncells g), .cells go 48 [.int .i64 kind, .int .i64 (a : Int), .int .i64 (m : Int)], .cells ga 55 [.int .i64 0, .int .i64 0], .cells gg 46 (ncells g)]) else Sep w w' [.row 46 2 (.slice A9 no c9) no (out.flatMap ncells), .cells go 48 [.int .i64 kind, .int .i64 (a : Int), .int .i64 (m : Int)], .cells ga 55 [.int .i64 0, .int .i64 0], .cells gg 46 (ncells g)])))) rfl (by kernel_rfl) ?_ ?_ ?_
        · simp only [turn, List.foldl_cons, List.foldl_nil, List.setIfInBounds_toArray, List.set_cons_succ, List.set_cons_zero]
          exact ⟨_, _, _, _, _, _, _, _, _, rfl, (fun h => absurd h (by decide)), (fun h => absurd h (by decide)), (fun h => absurd h (by decide)), (fun h => absurd h (by decide)), (fun h => absurd h (by decide)), (fun h => absurd h (by decide)), (fun h => absurd h (by decide)), (fun h => absurd h (by decide)), (fun h => absurd h (by decide)), (fun h => absurd h (by decide)), (fun h => absurd h (by decide)), (fun h => absurd h (by decide)), (fun h => absurd h (by decide)), by simpa using HS.out.drew⟩
        · rintro L ac w' i o ⟨x6, x101, x102, x103, x104, x105, x106, x107, x108, ha, p0, p1, p2, p5, p6, p7, p8, q3, q4, q6, q7, q8, q9, hS⟩ ho hi he
          simp only [turn, List.foldl_cons, List.foldl_nil, List.setIfInBounds_toArray, List.set_cons_succ, List.set_cons_zero] at ha ⊢
          subst ha
          rcases i with _|_|_|_|_|_|_|_|_|_|i
          all_goals cases ho
          all_goals simp [Region.binds] at he
          · have h4 : L 4 = false := by cases hh : L 4 with | false => rfl | true => (have hq := q4 hh; simp [hi] at hq)
            have h8 : L 8 = false := by cases hh : L 8 with | false => rfl | true => (have hq := q8 hh; simp [hi] at hq)
            have h9 : L 9 = false := by cases hh : L 9 with | false => rfl | true => (have hq := q9 hh; simp [hi] at hq)
            refine wpOp_step rfl (fun K hK => ?_)
            go_simp
            exact hK _ _ ⟨_, _, _, _, _, _, _, _, _, rfl, (fun _ => rfl), (by first | exact p1 | exact fun _ => rfl), (by first | exact p2 | exact fun _ => rfl), (by first | exact p5 | exact fun _ => rfl), (by first | exact p6 | exact fun _ => rfl), (by first | exact p7 | exact fun _ => rfl), (by simp [h8]), (by simpa using q3), (by simp [h4]), (by simpa using q6), (by simpa using q7), (by simp [h8]), (by simp [h9]), (by simpa [h4, h8, h9] using hS)⟩
          · have h4 : L 4 = false := by cases hh : L 4 with | false => rfl | true => (have hq := q4 hh; simp [hi] at hq)
            have h8 : L 8 = false := by cases hh : L 8 with | false => rfl | true => (have hq := q8 hh; simp [hi] at hq)
            have h9 : L 9 = false := by cases hh : L 9 with | false => rfl | true => (have hq := q9 hh; simp [hi] at hq)
            refine wpOp_step rfl (fun K hK => ?_)
            go_simp
            exact hK _ _ ⟨_, _, _, _, _, _, _, _, _, rfl, (by first | exact p0 | exact fun _ => rfl), (fun _ => rfl), (by first | exact p2 | exact fun _ => rfl), (by first | exact p5 | exact fun _ => rfl), (by first | exact p6 | exact fun _ => rfl), (by first | exact p7 | exact fun _ => rfl), (by simp [h8]), (by simpa using q3), (by simp [h4]), (by simpa using q6), (by simpa using q7), (by simp [h8]), (by simp [h9]), (by simpa [h4, h8, h9] using hS)⟩
          · have h3 : L 3 = false := by cases hh : L 3 with | false => rfl | true => (have hq := q3 hh; simp [hi] at hq)
            have h8 : L 8 = false := by cases hh : L 8 with | false => rfl | true => (have hq := q8 hh; simp [hi] at hq)
            have h9 : L 9 = false := by cases hh : L 9 with | false => rfl | true => (have hq := q9 hh; simp [hi] at hq)
            have h4 : L 4 = false := by cases hh : L 4 with | false => rfl | true => (have hq := q4 hh; simp [h3] at hq)
            have f0 : w'.cell? ⟨gg, 0, none⟩ = some (.int .i64 (g.a : Int)) := by
              rw [if_neg (by simp [h9]), if_neg (by simp [h4]), if_neg (by simp [h3])] at hS
              exact hS.cell 3 rfl (k := 0) rfl
            have f1 : w'.cell? ⟨gg, 1, none⟩ = some (.int .i64 (g.m : Int)) := by
              rw [if_neg (by simp [h9]), if_neg (by simp [h4]), if_neg (by simp [h3])] at hS
              exact hS.cell 3 rfl (k := 1) rfl
            refine wpOp_step rfl (fun K hK => ?_)
            go_simp
            exact hK _ _ ⟨_, _, _, _, _, _, _, _, _, rfl, (by first | exact p0 | exact fun _ => rfl), (by first | exact p1 | exact fun _ => rfl), (fun _ => rfl), (by first | exact p5 | exact fun _ => rfl), (by first | exact p6 | exact fun _ => rfl), (by first | exact p7 | exact fun _ => rfl), (by simp [h8]), (by simp [h3]), (by simp [h4]), (by simpa using q6), (by simpa using q7), (by simp [h8]), (by simp [h9]), (by simpa [h3, h8, h9, h4] using hS)⟩
          · have h4 : L 4 = false := by cases hh : L 4 with | false => rfl | true => (have hq := q4 hh; simp [hi] at hq)
            have h8 : L 8 = false := by cases hh : L 8 with | false => rfl | true => (have hq := q8 hh; simp [hi] at hq)
            have h9 : L 9 = false := by cases hh : L 9 with | false => rfl | true => (have hq := q9 hh; simp [hi] at hq)
            obtain rfl := p2 (by simp [he])
            rw [if_neg (by simp [h9]), if_neg (by simp [h4]), if_neg (by simp [hi])] at hS
            have hN := (hS.new 46 (ncells g)).pick [0, 4, 1, 2, 3] (by decide) (by simp)
            refine wpOp_step rfl (fun K hK => ?_)
            go_simp
            exact hK _ _ ⟨_, _, _, _, _, _, _, _, _, rfl, (by first | exact p0 | exact fun _ => rfl), (by first | exact p1 | exact fun _ => rfl), (by first | exact p2 | exact fun _ => rfl), (by first | exact p5 | exact fun _ => rfl), (by first | exact p6 | exact fun _ => rfl), (by first | exact p7 | exact fun _ => rfl), (by simp [h8]), (by simp [he]), (by simp [h4]), (by simpa using q6), (by simpa using q7), (by simp [h8]), (by simp [h9]), (by rw [if_neg (by simp [h9]), if_neg (by simp [h4]), if_pos (by simp)]; exact ⟨_, rfl, hN⟩)⟩
          · have h8 : L 8 = false := by cases hh : L 8 with | false => rfl | true => (have hq := q8 hh; simp [hi] at hq)
            have h9 : L 9 = false := by cases hh : L 9 with | false => rfl | true => (have hq := q9 hh; simp [hi] at hq)
            obtain rfl := p0 (by simp [he])
            obtain rfl := p1 (by simp [he])
            have t3 : L 3 = true := by simp [he]
            rw [if_neg (by simp [h9]), if_neg (by simp [hi]), if_pos t3] at hS
            obtain ⟨gv, rfl, hS⟩ := hS
            refine wpOp_step rfl (fun K hK => ?_)
            go_simp
            refine (insert_any w w' _ A9 no c9 p gv (out.flatMap ncells) (ncells g) hS rfl (ncells_one g) (gap_one out) (by have := HPN.out; omega) (by omega) HC9.out).mono ?_; rintro en w5 ⟨A', c', rfl, hc', K5⟩
            exact hK _ _ ⟨_, _, _, _, _, _, _, _, _, rfl, (by first | exact p0 | exact fun _ => rfl), (by first | exact p1 | exact fun _ => rfl), (by first | exact p2 | exact fun _ => rfl), (by first | exact p5 | exact fun _ => rfl), (by first | exact p6 | exact fun _ => rfl), (by first | exact p7 | exact fun _ => rfl), (by simp [h8]), (by simpa using q3), (by simp [he]), (by simpa using q6), (by simpa using q7), (by simp [h8]), (by simp [h9]), (by rw [if_neg (by simp [h9]), if_pos (by simp)]; exact ⟨A', c', rfl, hc', K5.pick [0, 2, 3, 4] (by decide) (by simp)⟩)⟩
          · have h6 : L 6 = false := by cases hh : L 6 with | false => rfl | true => (have hq := q6 hh; simp [hi] at hq)
            have h9 : L 9 = false := by cases hh : L 9 with | false => rfl | true => (have hq := q9 hh; simp [hi] at hq)
            have h7 : L 7 = false := by cases hh : L 7 with | false => rfl | true => (have hq := q7 hh; simp [h6] at hq)
            refine wpOp_step rfl (fun K hK => ?_)
            go_simp
            exact hK _ _ ⟨_, _, _, _, _, _, _, _, _, rfl, (by first | exact p0 | exact fun _ => rfl), (by first | exact p1 | exact fun _ => rfl), (by first | exact p2 | exact fun _ => rfl), (fun _ => rfl), (by simp [h6]), (by simp [h7]), (by first | exact p8 | exact fun _ => rfl), (by simpa using q3), (by simpa using q4), (by simp [h6]), (by simp [h7]), (by simpa using q8), (by simp [h9]), (by simpa [h6, h9, h7] using hS)⟩
          · have h7 : L 7 = false := by cases hh : L 7 with | false => rfl | true => (have hq := q7 hh; simp [hi] at hq)
            have h9 : L 9 = false := by cases hh : L 9 with | false => rfl | true => (have hq := q9 hh; simp [hi] at hq)
            obtain rfl := p5 (by simp [he])
            have f0 : w'.cell? ⟨go, 1, none⟩ = some (.int .i64 (a : Int)) := by
              rw [if_neg (by simp [h9])] at hS
              split at hS
              · obtain ⟨A', c', _, _, S⟩ := hS
                exact S.cell 1 rfl (k := 1) rfl
              · split at hS
                · obtain ⟨gv, _, S⟩ := hS
                  exact S.cell 2 rfl (k := 1) rfl
                · exact hS.cell 1 rfl (k := 1) rfl
            refine wpOp_step rfl (fun K hK => ?_)
            go_simp
            exact hK _ _ ⟨_, _, _, _, _, _, _, _, _, rfl, (by first | exact p0 | exact fun _ => rfl), (by first | exact p1 | exact fun _ => rfl), (by first | exact p2 | exact fun _ => rfl), (by first | exact p5 | exact fun _ => rfl), (fun _ => rfl), (by simp [h7]), (by first | exact p8 | exact fun _ => rfl), (by simpa using q3), (by simpa using q4), (by simp [he]), (by simp [h7]), (by simpa using q8), (by simp [h9]), (by simpa [h7, h9] using hS)⟩
          · have h9 : L 9 = false := by cases hh : L 9 with | false => rfl | true => (have hq := q9 hh; simp [hi] at hq)
            obtain rfl := p6 (by simp [he])
            refine wpOp_step rfl (fun K hK => ?_)
            go_simp
            exact hK _ _ ⟨_, _, _, _, _, _, _, _, _, rfl, (by first | exact p0 | exact fun _ => rfl), (by first | exact p1 | exact fun _ => rfl), (by first | exact p2 | exact fun _ => rfl), (by first | exact p5 | exact fun _ => rfl), (by first | exact p6 | exact fun _ => rfl), (fun _ => rfl), (by first | exact p8 | exact fun _ => rfl), (by simpa using q3), (by simpa using q4), (by simpa using q6), (by simp [he]), (by simpa using q8), (by simp [h9]), (by simpa [h9] using hS)⟩
          · have h9 : L 9 = false := by cases hh : L 9 with | false => rfl | true => (have hq := q9 hh; simp [hi] at hq)
            refine wpOp_step rfl (fun K hK => ?_)
            go_simp
            exact hK _ _ ⟨_, _, _, _, _, _, _, _, _, rfl, (by first | exact p0 | exact fun _ => rfl), (by first | exact p1 | exact fun _ => rfl), (by first | exact p2 | exact fun _ => rfl), (by first | exact p5 | exact fun _ => rfl), (by first | exact p6 | exact fun _ => rfl), (by first | exact p7 | exact fun _ => rfl), (fun _ => rfl), (by simpa using q3), (by simpa using q4), (by simpa using q6), (by simpa using q7), (by simp [he]), (by simp [h9]), (by simpa [h9] using hS)⟩
          · obtain rfl := p7 (by simp [he])
            have t3 : L 3 = true := by simp [he]
            have t4 : L 4 = true := by simp [he]
            rw [if_neg (by simp [hi]), if_pos t4] at hS
            obtain ⟨A', c', rfl, hc', hS⟩ := hS
            have e0 := hS.cell 2 rfl (k := 0) rfl
            have e1 := hS.cell 2 rfl (k := 1) rfl
            have u0 := hS.froz 2 rfl (k := 0)
            have u1 := hS.froz 2 rfl (k := 1)
            have hN := (hS.set 2 rfl (k := 0) (.int .i64 0)).set 2 rfl (k := 1) (.int .i64 (a : Int))
            refine wpOp_step rfl (fun K hK => ?_)
            go_simp
            exact hK _ _ ⟨_, _, _, _, _, _, _, _, _, rfl, (by first | exact p0 | exact fun _ => rfl), (by first | exact p1 | exact fun _ => rfl), (by first | exact p2 | exact fun _ => rfl), (by first | exact p5 | exact fun _ => rfl), (by first | exact p6 | exact fun _ => rfl), (by first | exact p7 | exact fun _ => rfl), (by first | exact p8 | exact fun _ => rfl), (by simpa using q3), (by simpa using q4), (by simpa using q6), (by simpa using q7), (by simpa using q8), (by simp [he]), (by rw [if_pos (by simp)]; exact ⟨A', c', rfl, hc', hN⟩)⟩
        · rintro L ac w' ⟨x6, x101, x102, x103, x104, x105, x106, x107, x108, ha, p0, p1, p2, p5, p6, p7, p8, q3, q4, q6, q7, q8, q9, hS⟩ hall
          have t3 := hall 3 (by decide)
          have t4 := hall 4 (by decide)
          have t9 := hall 9 (by decide)
          rw [if_pos t9] at hS
          obtain ⟨A', c', rfl, hc', hS⟩ := hS
          obtain rfl := p0 (hall 0 (by decide))
          obtain rfl := p1 (hall 1 (by decide))
          obtain rfl := p2 (hall 2 (by decide))
          obtain rfl := p5 (hall 5 (by decide))
          obtain rfl := p6 (hall 6 (by decide))
          obtain rfl := p7 (hall 7 (by decide))
          obtain rfl := p8 (hall 8 (by decide))
          simp only [turn, List.foldl_cons, List.foldl_nil, List.setIfInBounds_toArray, List.set_cons_succ, List.set_cons_zero] at ha
          subst ha
          clear q3 q4 q6 q7 q8 q9 t3 t4 t9
          have HS9 := Lib.hid hS
          clear hS
          have f0 := HS9.out.cell 2 rfl (k := 0) rfl
          have f1 := HS9.out.cell 2 rfl (k := 1) rfl
          go_wp2
          refine bodyPost_ret (v := .tuple #[.slice A' (no + 1) c', .agg #[.int .i64 0, .int .i64 (a : Int)]]) (by simp [results, Tryz.results46, asAddr, Result.andThen, go_sem, f0, f1]) rfl ?_
          exact HFIN.out A' c' _ hc' (HS9.out.pick [0] (by decide) (by simp))
      · obtain rfl : no = p := by omega
        obtain rfl : v12 = -1 := by rw [HP.out, if_neg hpn]
        have HS : Hid (Sep w w2 [.row 46 2 (.slice A9 no c9) no (out.flatMap ncells), .cells go 48 [.int .i64 kind, .int .i64 (a : Int), .int .i64 (m : Int)], .cells ga 55 [.int .i64 0, .int .i64 0], .cells gg 46 (ncells g)]) := Lib.hid (HS2.out.pick [3, 0, 1, 2] (by decide) (by simp))
        clear HS2
        go_upto_region 19 with (fail)
        refine wp_region_inv0 (fun ac0 L ac w' => ∃ x6 x101 x102 x103 x104 x105 x106 x107 x108, ac = turn ac0 [(6, x6), (101, x101), (102, x102), (103, x103), (104, x104), (105, x105), (106, x106), (107, x107), (108, x108)] ∧ (L 0 = true → x101 = .slice A9 no c9) ∧ (L 1 = true → x102 = .int .i64 (no : Int)) ∧ (L 2 = true → x103 = .agg #[.int .i64 (g.a : Int), .int .i64 (g.m : Int)]) ∧ (L 5 = true → x106 = .pointer (some ⟨go, 1, none⟩)) ∧ (L 6 = true → x107 = .int .i64 (a : Int)) ∧ (L 7 = true → x108 = .agg #[.int .i64 0, .int .i64 (a : Int)]) ∧ (L 8 = true → x6 = x105) ∧ (L 3 = true → L 2 = true) ∧ (L 4 = true → L 0 = true ∧ L 1 = true ∧ L 3 = true) ∧ (L 6 = true → L 5 = true) ∧ (L 7 = true → L 6 = true) ∧ (L 8 = true → L 0 = true ∧ L 1 = true ∧ L 2 = true ∧ L 3 = true ∧ L 4 = true) ∧ (L 9 = true → L 0 = true ∧ L 1 = true ∧ L 2 = true ∧ L 3 = true ∧ L 4 = true ∧ L 5 = true ∧ L 6 = true ∧ L 7 = true ∧ L 8 = true) ∧ (if L 9 = true then (∃ A' c', x105 = .slice A' (no + 1) c' ∧ no + 1 ≤ c' ∧ Sep w w' [.row 46 2 (.slice A' (no + 1) c') (no + 1) ((out.flatMap ncells).take (no * 2) ++ (ncells g ++ (out.flatMap ncells).drop (no * 2))), .cells go 48 [.int .i64 kind, .int .i64 (a : Int), .int .i64 (m : Int)], .cells ga 55 [.int .i64 0, .int .i64 (a : Int)], .cells gg 46 (ncells g)]) else (if L 4 = true then (∃ A' c', x105 = .slice A' (no + 1) c' ∧ no + 1 ≤ c' ∧ Sep w w' [.row 46 2 (.slice A' (no + 1) c') (no + 1) ((out.flatMap ncells).take (no * 2) ++ (ncells g ++ (out.flatMap ncells).drop (no * 2))), .cells go 48 [.int .i64 kind, .int .i64 (a : Int), .int .i64 (m : Int)], .cells ga 55 [.int .i64 0, .int .i64 0], .cells gg 46 (ncells g)]) else (if L 3 = true then (∃ gv, x104 = .slice (some ⟨gv, 0, none⟩) 1 1 ∧ Sep w w' [.row 46 2 (.slice A9 no c9) no (out.flatMap ncells), .cells gv 46 (ncells g), .cells go 48 [.int .i64 kind, .int .i64 (a : Int), .int .i64 (m : Int)], .cells ga 55 [.int .i64 0, .int .i64 0], .cells gg 46 (ncells g)]) else Sep w w' [.row 46 2 (.slice A9 no c9) no (out.flatMap ncells), .cells go 48 [.int .i64 kind, .int .i64 (a : Int), .int .i64 (m : Int)], .cells ga 55 [.int .i64 0, .int .i64 0], .cells gg 46 (ncells g)])))) rfl (by kernel_rfl) ?_ ?_ ?_
        · simp only [turn, List.foldl_cons, List.foldl_nil, List.setIfInBounds_toArray, List.set_cons_succ, List.set_cons_zero]
          exact ⟨_, _, _, _, _, _, _, _, _, rfl, (fun h => absurd h (by decide)), (fun h => absurd h (by decide)), (fun h => absurd h (by decide)), (fun h => absurd h (by decide)), (fun h => absurd h (by decide)), (fun h => absurd h (by decide)), (fun h => absurd h (by decide)), (fun h => absurd h (by decide)), (fun h => absurd h (by decide)), (fun h => absurd h (by decide)), (fun h => absurd h (by decide)), (fun h => absurd h (by decide)), (fun h => absurd h (by decide)), by simpa using HS.out.drew⟩
        · rintro L ac w' i o ⟨x6, x101, x102, x103, x104, x105, x106, x107, x108, ha, p0, p1, p2, p5, p6, p7, p8, q3, q4, q6, q7, q8, q9, hS⟩ ho hi he
          simp only [turn, List.foldl_cons, List.foldl_nil, List.setIfInBounds_toArray, List.set_cons_succ, List.set_cons_zero] at ha ⊢
          subst ha
          rcases i with _|_|_|_|_|_|_|_|_|_|i
          all_goals cases ho
          all_goals simp [Region.binds] at he
          · have h4 : L 4 = false := by cases hh : L 4 with | false => rfl | true => (have hq := q4 hh; simp [hi] at hq)
            have h8 : L 8 = false := by cases hh : L 8 with | false => rfl | true => (have hq := q8 hh; simp [hi] at hq)
            have h9 : L 9 = false := by cases hh : L 9 with | false => rfl | true => (have hq := q9 hh; simp [hi] at hq)
            refine wpOp_step rfl (fun K hK => ?_)
            go_simp
            exact hK _ _ ⟨_, _, _, _, _, _, _, _, _, rfl, (fun _ => rfl), (by first | exact p1 | exact fun _ => rfl), (by first | exact p2 | exact fun _ => rfl), (by first | exact p5 | exact fun _ => rfl), (by first | exact p6 | exact fun _ => rfl), (by first | exact p7 | exact fun _ => rfl), (by simp [h8]), (by simpa using q3), (by simp [h4]), (by simpa using q6), (by simpa using q7), (by simp [h8]), (by simp [h9]), (by simpa [h4, h8, h9] using hS)⟩
          · have h4 : L 4 = false := by cases hh : L 4 with | false => rfl | true => (have hq := q4 hh; simp [hi] at hq)
            have h8 : L 8 = false := by cases hh : L 8 with | false => rfl | true => (have hq := q8 hh; simp [hi] at hq)
            have h9 : L 9 = false := by cases hh : L 9 with | false => rfl | true => (have hq := q9 hh; simp [hi] at hq)
            refine wpOp_step rfl (fun K hK => ?_)
            go_simp
            exact hK _ _ ⟨_, _, _, _, _, _, _, _, _, rfl, (by first | exact p0 | exact fun _ => rfl), (fun _ => rfl), (by first | exact p2 | exact fun _ => rfl), (by first | exact p5 | exact fun _ => rfl), (by first | exact p6 | exact fun _ => rfl), (by first | exact p7 | exact fun _ => rfl), (by simp [h8]), (by simpa using q3), (by simp [h4]), (by simpa using q6), (by simpa using q7), (by simp [h8]), (by simp [h9]), (by simpa [h4, h8, h9] using hS)⟩
          · have h3 : L 3 = false := by cases hh : L 3 with | false => rfl | true => (have hq := q3 hh; simp [hi] at hq)
            have h8 : L 8 = false := by cases hh : L 8 with | false => rfl | true => (have hq := q8 hh; simp [hi] at hq)
            have h9 : L 9 = false := by cases hh : L 9 with | false => rfl | true => (have hq := q9 hh; simp [hi] at hq)
            have h4 : L 4 = false := by cases hh : L 4 with | false => rfl | true => (have hq := q4 hh; simp [h3] at hq)
            have f0 : w'.cell? ⟨gg, 0, none⟩ = some (.int .i64 (g.a : Int)) := by
              rw [if_neg (by simp [h9]), if_neg (by simp [h4]), if_neg (by simp [h3])] at hS
              exact hS.cell 3 rfl (k := 0) rfl
            have f1 : w'.cell? ⟨gg, 1, none⟩ = some (.int .i64 (g.m : Int)) := by
              rw [if_neg (by simp [h9]), if_neg (by simp [h4]), if_neg (by simp [h3])] at hS
              exact hS.cell 3 rfl (k := 1) rfl
            refine wpOp_step rfl (fun K hK => ?_)
            go_simp
            exact hK _ _ ⟨_, _, _, _, _, _, _, _, _, rfl, (by first | exact p0 | exact fun _ => rfl), (by first | exact p1 | exact fun _ => rfl), (fun _ => rfl), (by first | exact p5 | exact fun _ => rfl), (by first | exact p6 | exact fun _ => rfl), (by first | exact p7 | exact fun _ => rfl), (by simp [h8]), (by simp [h3]), (by simp [h4]), (by simpa using q6), (by simpa using q7), (by simp [h8]), (by simp [h9]), (by simpa [h3, h8, h9, h4] using hS)⟩
          · have h4 : L 4 = false := by cases hh : L 4 with | false => rfl | true => (have hq := q4 hh; simp [hi] at hq)
            have h8 : L 8 = false := by cases hh : L 8 with | false => rfl | true => (have hq := q8 hh; simp [hi] at hq)
            have h9 : L 9 = false := by cases hh : L 9 with | false => rfl | true => (have hq := q9 hh; simp [hi] at hq)
            obtain rfl := p2 (by simp [he])
            rw [if_neg (by simp [h9]), if_neg (by simp [h4]), if_neg (by simp [hi])] at hS
            have hN := (hS.new 46 (ncells g)).pick [0, 4, 1, 2, 3] (by decide) (by simp)
            refine wpOp_step rfl (fun K hK => ?_)
            go_simp
            exact hK _ _ ⟨_, _, _, _, _, _, _, _, _, rfl, (by first | exact p0 | exact fun _ => rfl), (by first | exact p1 | exact fun _ => rfl), (by first | exact p2 | exact fun _ => rfl), (by first | exact p5 | exact fun _ => rfl), (by first | exact p6 | exact fun _ => rfl), (by first | exact p7 | exact fun _ => rfl), (by simp [h8]), (by simp [he]), (by simp [h4]), (by simpa using q6), (by simpa using q7), (by simp [h8]), (by simp [h9]), (by rw [if_neg (by simp [h9]), if_neg (by simp [h4]), if_pos (by simp)]; exact ⟨_, rfl, hN⟩)⟩
          · have h8 : L 8 = false := by cases hh : L 8 with | false => rfl | true => (have hq := q8 hh; simp [hi] at hq)
            have h9 : L 9 = false := by cases hh : L 9 with | false => rfl | true => (have hq := q9 hh; simp [hi] at hq)
            obtain rfl := p0 (by simp [he])
            obtain rfl := p1 (by simp [he])
            have t3 : L 3 = true := by simp [he]
            rw [if_neg (by simp [h9]), if_neg (by simp [hi]), if_pos t3] at hS
            obtain ⟨gv, rfl, hS⟩ := hS
            refine wpOp_step rfl (fun K hK => ?_)
            go_simp
            refine (insert_any w w' _ A9 no c9 no gv (out.flatMap ncells) (ncells g) hS rfl (ncells_one g) (gap_one out) (by have := HPN.out; omega) (by omega) HC9.out).mono ?_; rintro en w5 ⟨A', c', rfl, hc', K5⟩
            exact hK _ _ ⟨_, _, _, _, _, _, _, _, _, rfl, (by first | exact p0 | exact fun _ => rfl), (by first | exact p1 | exact fun _ => rfl), (by first | exact p2 | exact fun _ => rfl), (by first | exact p5 | exact fun _ => rfl), (by first | exact p6 | exact fun _ => rfl), (by first | exact p7 | exact fun _ => rfl), (by simp [h8]), (by simpa using q3), (by simp [he]), (by simpa using q6), (by simpa using q7), (by simp [h8]), (by simp [h9]), (by rw [if_neg (by simp [h9]), if_pos (by simp)]; exact ⟨A', c', rfl, hc', K5.pick [0, 2, 3, 4] (by decide) (by simp)⟩)⟩
          · have h6 : L 6 = false := by cases hh : L 6 with | false => rfl | true => (have hq := q6 hh; simp [hi] at hq)
            have h9 : L 9 = false := by cases hh : L 9 with | false => rfl | true => (have hq := q9 hh; simp [hi] at hq)
            have h7 : L 7 = false := by cases hh : L 7 with | false => rfl | true => (have hq := q7 hh; simp [h6] at hq)
            refine wpOp_step rfl (fun K hK => ?_)
            go_simp
            exact hK _ _ ⟨_, _, _, _, _, _, _, _, _, rfl, (by first | exact p0 | exact fun _ => rfl), (by first | exact p1 | exact fun _ => rfl), (by first | exact p2 | exact fun _ => rfl), (fun _ => rfl), (by simp [h6]), (by simp [h7]), (by first | exact p8 | exact fun _ => rfl), (by simpa using q3), (by simpa using q4), (by simp [h6]), (by simp [h7]), (by simpa using q8), (by simp [h9]), (by simpa [h6, h9, h7] using hS)⟩
          · have h7 : L 7 = false := by cases hh : L 7 with | false => rfl | true => (have hq := q7 hh; simp [hi] at hq)
            have h9 : L 9 = false := by cases hh : L 9 with | false => rfl | true => (have hq := q9 hh; simp [hi] at hq)
            obtain rfl := p5 (by simp [he])
            have f0 : w'.cell? ⟨go, 1, none⟩ = some (.int .i64 (a : Int)) := by
              rw [if_neg (by simp [h9])] at hS
              split at hS
              · obtain ⟨A', c', _, _, S⟩ := hS
                exact S.cell 1 rfl (k := 1) rfl
              · split at hS
                · obtain ⟨gv, _, S⟩ := hS
                  exact S.cell 2 rfl (k := 1) rfl
                · exact hS.cell 1 rfl (k := 1) rfl
            refine wpOp_step rfl (fun K hK => ?_)
            go_simp
            exact hK _ _ ⟨_, _, _, _, _, _, _, _, _, rfl, (by first | exact p0 | exact fun _ => rfl), (by first | exact p1 | exact fun _ => rfl), (by first | exact p2 | exact fun _ => rfl), (by first | exact p5 | exact fun _ => rfl), (fun _ => rfl), (by simp [h7]), (by first | exact p8 | exact fun _ => rfl), (by simpa using q3), (by simpa using q4), (by simp [he]), (by simp [h7]), (by simpa using q8), (by simp [h9]), (by simpa [h7, h9] using hS)⟩
          · have h9 : L 9 = false := by cases hh : L 9 with | false => rfl | true => (have hq := q9 hh; simp [hi] at hq)
            obtain rfl := p6 (by simp [he])
            refine wpOp_step rfl (fun K hK => ?_)
            go_simp
            exact hK _ _ ⟨_, _, _, _, _, _, _, _, _, rfl, (by first | exact p0 | exact fun _ => rfl), (by first | exact p1 | exact fun _ => rfl), (by first | exact p2 | exact fun _ => rfl), (by first | exact p5 | exact fun _ => rfl), (by first | exact p6 | exact fun _ => rfl), (fun _ => rfl), (by first | exact p8 | exact fun _ => rfl), (by simpa using q3), (by simpa using q4), (by simpa using q6), (by simp [he]), (by simpa using q8), (by simp [h9]), (by simpa [h9] using hS)⟩
          · have h9 : L 9 = false := by cases hh : L 9 with | false => rfl | true => (have hq := q9 hh; simp [hi] at hq)
            refine wpOp_step rfl (fun K hK => ?_)
            go_simp
            exact hK _ _ ⟨_, _, _, _, _, _, _, _, _, rfl, (by first | exact p0 | exact fun _ => rfl), (by first | exact p1 | exact fun _ => rfl), (by first | exact p2 | exact fun _ => rfl), (by first | exact p5 | exact fun _ => rfl), (by first | exact p6 | exact fun _ => rfl), (by first | exact p7 | exact fun _ => rfl), (fun _ => rfl), (by simpa using q3), (by simpa using q4), (by simpa using q6), (by simpa using q7), (by simp [he]), (by simp [h9]), (by simpa [h9] using hS)⟩
          · obtain rfl := p7 (by simp [he])
            have t3 : L 3 = true := by simp [he]
            have t4 : L 4 = true := by simp [he]
            rw [if_neg (by simp [hi]), if_pos t4] at hS
            obtain ⟨A', c', rfl, hc', hS⟩ := hS
            have e0 := hS.cell 2 rfl (k := 0) rfl
            have e1 := hS.cell 2 rfl (k := 1) rfl
            have u0 := hS.froz 2 rfl (k := 0)
            have u1 := hS.froz 2 rfl (k := 1)
            have hN := (hS.set 2 rfl (k := 0) (.int .i64 0)).set 2 rfl (k := 1) (.int .i64 (a : Int))
            refine wpOp_step rfl (fun K hK => ?_)
            go_simp
            exact hK _ _ ⟨_, _, _, _, _, _, _, _, _, rfl, (by first | exact p0 | exact fun _ => rfl), (by first | exact p1 | exact fun _ => rfl), (by first | exact p2 | exact fun _ => rfl), (by first | exact p5 | exact fun _ => rfl), (by first | exact p6 | exact fun _ => rfl), (by first | exact p7 | exact fun _ => rfl), (by first | exact p8 | exact fun _ => rfl), (by simpa using q3), (by simpa using q4), (by simpa using q6), (by simpa using q7), (by simpa using q8), (by simp [he]), (by rw [if_pos (by simp)]; exact ⟨A', c', rfl, hc', hN⟩)⟩
        · rintro L ac w' ⟨x6, x101, x102, x103, x104, x105, x106, x107, x108, ha, p0, p1, p2, p5, p6, p7, p8, q3, q4, q6, q7, q8, q9, hS⟩ hall
          have t3 := hall 3 (by decide)
          have t4 := hall 4 (by decide)
          have t9 := hall 9 (by decide)
          rw [if_pos t9] at hS
          obtain ⟨A', c', rfl, hc', hS⟩ := hS
          obtain rfl := p0 (hall 0 (by decide))
          obtain rfl := p1 (hall 1 (by decide))
          obtain rfl := p2 (hall 2 (by decide))
          obtain rfl := p5 (hall 5 (by decide))
          obtain rfl := p6 (hall 6 (by decide))
          obtain rfl := p7 (hall 7 (by decide))
          obtain rfl := p8 (hall 8 (by decide))
          simp only [turn, List.foldl_cons, List.foldl_nil, List.setIfInBounds_toArray, List.set_cons_succ, List.set_cons_zero] at ha
          subst ha
          clear q3 q4 q6 q7 q8 q9 t3 t4 t9
          have HS9 := Lib.hid hS
          clear hS
          have f0 := HS9.out.cell 2 rfl (k := 0) rfl
          have f1 := HS9.out.cell 2 rfl (k := 1) rfl
          go_wp2
          refine bodyPost_ret (v := .tuple #[.slice A' (no + 1) c', .agg #[.int .i64 0, .int .i64 (a : Int)]]) (by simp [results, Tryz.results46, asAddr, Result.andThen, go_sem, f0, f1]) rfl ?_
          exact HFIN.out A' c' _ hc' (HS9.out.pick [0] (by decide) (by simp))
end Sp
end Go.Proofs.YtjopiepfjbnkbaaGreatDoor
/-! Walk of space.Step. Conditions: none. -/
namespace Go.Proofs.YtjopiepfjbnkbaaGreatDoor
open Go.RowKit
set_option linter.unusedVariables false
namespace Sp

theorem okG_all {S last : Int} : ∀ {l : List G}, okG S last l = true → ∀ g ∈ l, g.at_ + g.many ≤ S
  | [], _, _, h => by simp at h
  | x :: t, h, g, hg => by
    simp only [okG, Bool.and_eq_true, decide_eq_true_eq] at h
    rcases List.mem_cons.1 hg with rfl | hg
    · exact h.1.2
    · exact okG_all h.2 g hg
theorem okG_up {S T last : Int} (hST : S ≤ T) : ∀ {l : List G} {last : Int}, okG S last l = true → okG T last l = true
  | [], _, _ => rfl
  | x :: t, last, h => by
    simp only [okG, Bool.and_eq_true, decide_eq_true_eq] at h ⊢
    obtain ⟨⟨⟨h1, h2⟩, h3⟩, h4⟩ := h
    exact ⟨⟨⟨h1, h2⟩, by omega⟩, okG_up (last := last) hST h4⟩
theorem okG_last {S T : Int} : ∀ {l : List G} {last : Int} {x : G}, okG T last l = true → l.getLast? = some x → x.at_ + x.many ≤ S → okG S last l = true
  | [], _, _, _, h, _ => by simp at h
  | [y], last, x, h, hl, hx => by
    simp at hl
    subst hl
    simp only [okG, Bool.and_eq_true, decide_eq_true_eq, Bool.and_true] at h ⊢
    exact ⟨⟨h.1.1, h.1.2⟩, hx⟩
  | y :: z :: t, last, x, h, hl, hx => by
    rw [okG] at h ⊢
    simp only [Bool.and_eq_true, decide_eq_true_eq] at h
    obtain ⟨⟨⟨h1, h2⟩, h3⟩, h4⟩ := h
    have h5 := okG_last (S := S) (l := z :: t) h4 (by rw [List.getLast?_cons_cons] at hl; exact hl) hx
    have h6 := okG_all h5 z (by simp)
    simp only [okG, Bool.and_eq_true, decide_eq_true_eq] at h4 h5
    simp only [Bool.and_eq_true, decide_eq_true_eq]
    exact ⟨⟨⟨h1, h2⟩, by omega⟩, by rw [okG]; simp only [Bool.and_eq_true, decide_eq_true_eq]; exact h5⟩
theorem cells_of (ln : List N) : (ln.map G.of).flatMap G.cells = ln.flatMap ncells := by
  rw [List.flatMap_map]
  rfl
theorem g_at {l : List G} {k : Nat} {x : G} (h : l[k]? = some x) : (l.flatMap G.cells)[k * 2]? = some (.int .i64 x.at_) ∧ (l.flatMap G.cells)[k * 2 + 1]? = some (.int .i64 x.many) :=
  ⟨flat_get G.len l k 0 x h (by omega), flat_get G.len l k 1 x h (by omega)⟩

set_option maxRecDepth 100000 in
set_option maxHeartbeats 3200000 in
theorem step_bad (A : Option Addr) (n c : Nat) (S kind at' many : Int) (l : List G) (w : World) (hr : Rd w w.heap.size 2 A n (l.flatMap G.cells)) (hl : l.length = n) (hn : n ≤ 9223372036854775807) (hbad : S < 0 ∨ 4096 < S ∨ okG S (-1) l = false) :
    Calls Tryz.prog 23 #[.int .i64 S, .slice A n c, .agg #[.int .i64 kind, .int .i64 at', .int .i64 many]] w (StepRet w ([], 1, 0)) := by
  have S0 : Hid (Sep w ((w.alloc (.cells #[.int .i64 kind, .int .i64 at', .int .i64 many] 48)).alloc (.cells #[.int .i64 0, .int .i64 0] 55)) [.cells w.heap.size 48 [.int .i64 kind, .int .i64 at', .int .i64 many], .cells (w.heap.size + 1) 55 [.int .i64 0, .int .i64 0]]) := Lib.hid (by
    have := ((Sep.nil_ w).new 48 [.int .i64 kind, .int .i64 at', .int .i64 many]).new 55 [.int .i64 0, .int .i64 0]
    simpa using this)
  have HR := Lib.hid hr
  have HL := Lib.hid hl
  have HB := Lib.hid hbad
  have cR : Hid (∀ b0, okG 4096 (-1) l = b0 → ∀ V, Below ((w.alloc (.cells #[.int .i64 kind, .int .i64 at', .int .i64 many] 48)).alloc (.cells #[.int .i64 0, .int .i64 0] 55)).heap.size ((w.alloc (.cells #[.int .i64 kind, .int .i64 at', .int .i64 many] 48)).alloc (.cells #[.int .i64 0, .int .i64 0] 55)) V → Calls Tryz.prog 45 #[.slice A n c] V (Ret V (.bool b0))) := Lib.hid (fun b0 hb0 V hV => right_is A n c l b0 V (hr.later (S0.out.below.trans (hV.mono S0.out.below.size))) hl hn hb0)
  clear hr hl hbad
  go_enter Tryz.func23, Tryz.ntmps23
  go_upto_region 1 with (fail)
  generalize ((w.alloc (.cells #[.int .i64 kind, .int .i64 at', .int .i64 many] 48)).alloc (.cells #[.int .i64 0, .int .i64 0] 55)) = wo at * 
  generalize w.heap.size + 1 = ga at S0 ⊢
  generalize hgo : w.heap.size = go at S0 ⊢
  by_cases h0 : S < 0
  · go_upto_region 2 with (fail)
    refine wp_region_later (by kernel_rfl) (by kernel_rfl) ?_
    repeat (go_big_quiet_step ((go_at_call 45; exact Calls.later (cR.out _ (LaterOf.h _)))))
    refine wpQuiet_nil ?_; intro x1 hw'; obtain ⟨xq, hw''⟩ := hw'; obtain ⟨xw0, h1⟩ := xq; change x1 = xw0 at hw''; subst hw''
    have S1 := Lib.hid (S0.out.later h1)
    clear S0
    have e0 := S1.out.cell 1 rfl (k := 0) rfl
    have e1 := S1.out.cell 1 rfl (k := 1) rfl
    have u0 := S1.out.froz 1 rfl (k := 0)
    have u1 := S1.out.froz 1 rfl (k := 1)
    have S9 := Lib.hid ((S1.out.set 1 rfl (k := 0) (.int .i64 1)).set 1 rfl (k := 1) (.int .i64 0))
    have f0 := S9.out.cell 1 rfl (k := 0) rfl
    have f1 := S9.out.cell 1 rfl (k := 1) rfl
    clear S1
    go_wp2
    refine bodyPost_ret (v := .tuple #[.slice none 0 0, .agg #[.int .i64 1, .int .i64 0]]) (by simp [results, Tryz.results23, asAddr, Result.andThen, go_sem, f0, f1]) rfl ?_
    exact ⟨none, 0, Nat.le_refl _, rfl, (S9.out.pick [] (by decide) (by simp)).nilRow 46 2 none⟩
  by_cases h1 : 4096 < S
  · go_upto_region 2 with (fail)
    refine wp_region_later (by kernel_rfl) (by kernel_rfl) ?_
    repeat (go_big_quiet_step ((go_at_call 45; exact Calls.later (cR.out _ (LaterOf.h _)))))
    refine wpQuiet_nil ?_; intro x1 hw'; obtain ⟨xq, hw''⟩ := hw'; obtain ⟨xw0, h1⟩ := xq; change x1 = xw0 at hw''; subst hw''
    have S1 := Lib.hid (S0.out.later h1)
    clear S0
    have e0 := S1.out.cell 1 rfl (k := 0) rfl
    have e1 := S1.out.cell 1 rfl (k := 1) rfl
    have u0 := S1.out.froz 1 rfl (k := 0)
    have u1 := S1.out.froz 1 rfl (k := 1)
    have S9 := Lib.hid ((S1.out.set 1 rfl (k := 0) (.int .i64 1)).set 1 rfl (k := 1) (.int .i64 0))
    have f0 := S9.out.cell 1 rfl (k := 0) rfl
    have f1 := S9.out.cell 1 rfl (k := 1) rfl
    clear S1
    go_wp2
    refine bodyPost_ret (v := .tuple #[.slice none 0 0, .agg #[.int .i64 1, .int .i64 0]]) (by simp [results, Tryz.results23, asAddr, Result.andThen, go_sem, f0, f1]) rfl ?_
    exact ⟨none, 0, Nat.le_refl _, rfl, (S9.out.pick [] (by decide) (by simp)).nilRow 46 2 none⟩
  have hb := (HB.out.resolve_left h0).resolve_left h1
  have HOK := Lib.hid hb
  clear hb HB
  cases hr4 : okG 4096 (-1) l with
  | false =>
    have cR := Lib.hid (cR.out false hr4)
    go_upto_region 2 with (fail)
    refine wp_region_later (by kernel_rfl) (by kernel_rfl) ?_
    repeat (go_big_quiet_step ((go_at_call 45; exact Calls.later (cR.out _ (LaterOf.h _)))))
    refine wpQuiet_nil ?_; intro x1 hw'; obtain ⟨xq, hw''⟩ := hw'; obtain ⟨xw0, h1⟩ := xq; change x1 = xw0 at hw''; subst hw''
    have S1 := Lib.hid (S0.out.later h1)
    clear S0
    have e0 := S1.out.cell 1 rfl (k := 0) rfl
    have e1 := S1.out.cell 1 rfl (k := 1) rfl
    have u0 := S1.out.froz 1 rfl (k := 0)
    have u1 := S1.out.froz 1 rfl (k := 1)
    have S9 := Lib.hid ((S1.out.set 1 rfl (k := 0) (.int .i64 1)).set 1 rfl (k := 1) (.int .i64 0))
    have f0 := S9.out.cell 1 rfl (k := 0) rfl
    have f1 := S9.out.cell 1 rfl (k := 1) rfl
    clear S1
    go_wp2
    refine bodyPost_ret (v := .tuple #[.slice none 0 0, .agg #[.int .i64 1, .int .i64 0]]) (by simp [results, Tryz.results23, asAddr, Result.andThen, go_sem, f0, f1]) rfl ?_
    exact ⟨none, 0, Nat.le_refl _, rfl, (S9.out.pick [] (by decide) (by simp)).nilRow 46 2 none⟩
  | true =>
    have cR := Lib.hid (cR.out true hr4)
    have HR4 := Lib.hid hr4
    clear hr4
    obtain ⟨m, rfl⟩ : ∃ m, n = m + 1 := by
      cases n with
      | succ m => exact ⟨m, rfl⟩
      | zero =>
        have h1 := HOK.out
        rw [List.eq_nil_of_length_eq_zero HL.out] at h1
        cases h1
    obtain ⟨x, hx⟩ : ∃ x, l[m]? = some x := ⟨_, List.getElem?_eq_getElem (by rw [HL.out]; omega)⟩
    obtain ⟨b, off, rfl, hb, hc⟩ := HR.out.at_ G.len (by omega)
    have hlast : l.getLast? = some x := by rw [List.getLast?_eq_getElem?, HL.out]; exact hx
    have hxs : S < x.at_ + x.many := by
      rcases Int.lt_or_le S (x.at_ + x.many) with h | h
      · exact h
      · have h2 := okG_last HR4.out hlast h
        rw [HOK.out] at h2
        cases h2
    have hx4 := okG_all HR4.out x (List.mem_of_getElem? hx)
    obtain ⟨ln, hln, hokn⟩ := okG_ok (S := 4096) l 0 (by simpa using HR4.out)
    have hx0 : 0 ≤ x.at_ ∧ 0 ≤ x.many := by
      have hm := List.mem_of_getElem? hx
      rw [hln] at hm
      obtain ⟨y, _, rfl⟩ := List.mem_map.1 hm
      simp only [G.of]
      omega
    obtain ⟨hx01, hx02⟩ := hx0
    have d0 : ∀ z : LaterOf wo, z.w.cell? ⟨b, off + m * 2, none⟩ = some (.int .i64 x.at_) := fun z => z.cell ((S0.out.below.cell hb).trans (hc m 0 x _ hx rfl))
    have d1 : ∀ z : LaterOf wo, z.w.cell? ⟨b, off + m * 2 + 1, none⟩ = some (.int .i64 x.many) := fun z => z.cell ((S0.out.below.cell hb).trans (hc m 1 x _ hx rfl))
    have k1 : ((m + 1 : Nat) : Int) - 1 = (m : Int) := by omega
    have k2 : (0 : Int) ≤ (m : Int) := by omega
    have k3 : (m : Int) < ((m + 1 : Nat) : Int) := by omega
    have k4 : (0 : Int) < ((m + 1 : Nat) : Int) := by omega
    clear hc hx hlast hln hokn HR4 HOK
    go_upto_region 2 with (fail)
    refine wp_region_later (by kernel_rfl) (by kernel_rfl) ?_
    repeat (go_big_quiet_step ((go_at_call 45; exact Calls.later (cR.out _ (LaterOf.h _)))))
    refine wpQuiet_nil ?_; intro x1 hw'; obtain ⟨xq, hw''⟩ := hw'; obtain ⟨xw0, h1⟩ := xq; change x1 = xw0 at hw''; subst hw''
    have S1 := Lib.hid (S0.out.later h1)
    clear S0
    have e0 := S1.out.cell 1 rfl (k := 0) rfl
    have e1 := S1.out.cell 1 rfl (k := 1) rfl
    have u0 := S1.out.froz 1 rfl (k := 0)
    have u1 := S1.out.froz 1 rfl (k := 1)
    have S9 := Lib.hid ((S1.out.set 1 rfl (k := 0) (.int .i64 1)).set 1 rfl (k := 1) (.int .i64 0))
    have f0 := S9.out.cell 1 rfl (k := 0) rfl
    have f1 := S9.out.cell 1 rfl (k := 1) rfl
    clear S1
    go_wp2
    refine bodyPost_ret (v := .tuple #[.slice none 0 0, .agg #[.int .i64 1, .int .i64 0]]) (by simp [results, Tryz.results23, asAddr, Result.andThen, go_sem, f0, f1]) rfl ?_
    exact ⟨none, 0, Nat.le_refl _, rfl, (S9.out.pick [] (by decide) (by simp)).nilRow 46 2 none⟩

set_option maxRecDepth 100000 in
set_option maxHeartbeats 6400000 in
theorem step_ok (A : Option Addr) (n c S : Nat) (kind at' many : Int) (ln : List N) (w : World) (hr : Rd w w.heap.size 2 A n (ln.flatMap ncells)) (hl : ln.length = n) (hS : S ≤ 4096) (hok : Ok S 0 ln) :
    Calls Tryz.prog 23 #[.int .i64 (S : Int), .slice A n c, .agg #[.int .i64 kind, .int .i64 at', .int .i64 many]] w (StepRet w (stepL S ln kind at' many)) := by
  have hn : n ≤ 4096 := by have := ok_len ln 0 hok; omega
  have S0 : Hid (Sep w ((w.alloc (.cells #[.int .i64 kind, .int .i64 at', .int .i64 many] 48)).alloc (.cells #[.int .i64 0, .int .i64 0] 55)) [.cells w.heap.size 48 [.int .i64 kind, .int .i64 at', .int .i64 many], .cells (w.heap.size + 1) 55 [.int .i64 0, .int .i64 0]]) := Lib.hid (by
    have := ((Sep.nil_ w).new 48 [.int .i64 kind, .int .i64 at', .int .i64 many]).new 55 [.int .i64 0, .int .i64 0]
    simpa using this)
  have HL := Lib.hid hl
  have HOK := Lib.hid hok
  have hokG := ok_okG ln 0 hok
  have hr4 : okG 4096 (-1) (ln.map G.of) = true := okG_up (S := (S : Int)) (last := 0) (by omega) (by simpa using hokG)
  have HR : Hid (∀ V, Below ((w.alloc (.cells #[.int .i64 kind, .int .i64 at', .int .i64 many] 48)).alloc (.cells #[.int .i64 0, .int .i64 0] 55)).heap.size ((w.alloc (.cells #[.int .i64 kind, .int .i64 at', .int .i64 many] 48)).alloc (.cells #[.int .i64 0, .int .i64 0] 55)) V → Rd V V.heap.size 2 A n (ln.flatMap ncells)) := Lib.hid (fun V hV => hr.later (S0.out.below.trans (hV.mono S0.out.below.size)))
  have HR0 := Lib.hid hr
  have cR : Hid (∀ V, Below ((w.alloc (.cells #[.int .i64 kind, .int .i64 at', .int .i64 many] 48)).alloc (.cells #[.int .i64 0, .int .i64 0] 55)).heap.size ((w.alloc (.cells #[.int .i64 kind, .int .i64 at', .int .i64 many] 48)).alloc (.cells #[.int .i64 0, .int .i64 0] 55)) V → Calls Tryz.prog 45 #[.slice A n c] V (Ret V (.bool true))) := Lib.hid (fun V hV => right_is A n c (ln.map G.of) true V (by rw [cells_of]; exact HR.out V hV) (by simpa using hl) (by omega) hr4)
  obtain ⟨res, hres⟩ : ∃ r, r = stepL S ln kind at' many := ⟨_, rfl⟩
  rw [← hres]
  have HRES := Lib.hid hres
  clear hr hl hok hokG hr4 hres
  go_enter Tryz.func23, Tryz.ntmps23
  go_upto_region 1 with (fail)
  generalize ((w.alloc (.cells #[.int .i64 kind, .int .i64 at', .int .i64 many] 48)).alloc (.cells #[.int .i64 0, .int .i64 0] 55)) = wo at * 
  generalize w.heap.size + 1 = ga at S0 ⊢
  generalize hgo : w.heap.size = go at S0 ⊢
  have s0 : ¬ (S : Int) < 0 := by omega
  have s1 : ¬ 4096 < S := by omega
  have s1' : ¬ (4096 : Int) < (S : Int) := by omega
  rcases Nat.eq_zero_or_pos n with hn0 | hn0
  · subst hn0
    go_upto_region 2 with (fail)
    refine wp_region_later (by kernel_rfl) (by kernel_rfl) ?_
    repeat (go_big_quiet_step ((go_at_call 45; exact Calls.later (cR.out _ (LaterOf.h _)))))
    refine wpQuiet_nil ?_; intro x1 hw'; obtain ⟨xq, hw''⟩ := hw'; obtain ⟨xw0, h1⟩ := xq; change x1 = xw0 at hw''; subst hw''
    have S1 := Lib.hid (S0.out.later h1)
    clear S0
    have q0 := S1.out.cell 0 rfl (k := 0) rfl
    have q1 := S1.out.cell 0 rfl (k := 1) rfl
    have q2 := S1.out.cell 0 rfl (k := 2) rfl
    by_cases g1 : kind < 1
    · obtain rfl : res = ([], 5, 0) := by rw [HRES.out, stepL, if_pos (.inl g1)]
      have e0 := S1.out.cell 1 rfl (k := 0) rfl
      have e1 := S1.out.cell 1 rfl (k := 1) rfl
      have u0 := S1.out.froz 1 rfl (k := 0)
      have u1 := S1.out.froz 1 rfl (k := 1)
      have S9 := Lib.hid ((S1.out.set 1 rfl (k := 0) (.int .i64 5)).set 1 rfl (k := 1) (.int .i64 0))
      have f0 := S9.out.cell 1 rfl (k := 0) rfl
      have f1 := S9.out.cell 1 rfl (k := 1) rfl
      clear S1
      go_wp2
      refine bodyPost_ret (v := .tuple #[.slice none 0 0, .agg #[.int .i64 5, .int .i64 0]]) (by simp [results, Tryz.results23, asAddr, Result.andThen, go_sem, f0, f1]) rfl ?_
      exact ⟨none, 0, Nat.le_refl _, rfl, (S9.out.pick [] (by decide) (by simp)).nilRow 46 2 none⟩
    by_cases g2 : 3 < kind
    · obtain rfl : res = ([], 5, 0) := by rw [HRES.out, stepL, if_pos (.inr g2)]
      have e0 := S1.out.cell 1 rfl (k := 0) rfl
      have e1 := S1.out.cell 1 rfl (k := 1) rfl
      have u0 := S1.out.froz 1 rfl (k := 0)
      have u1 := S1.out.froz 1 rfl (k := 1)
      have S9 := Lib.hid ((S1.out.set 1 rfl (k := 0) (.int .i64 5)).set 1 rfl (k := 1) (.int .i64 0))
      have f0 := S9.out.cell 1 rfl (k := 0) rfl
      have f1 := S9.out.cell 1 rfl (k := 1) rfl
      clear S1
      go_wp2
      refine bodyPost_ret (v := .tuple #[.slice none 0 0, .agg #[.int .i64 5, .int .i64 0]]) (by simp [results, Tryz.results23, asAddr, Result.andThen, go_sem, f0, f1]) rfl ?_
      exact ⟨none, 0, Nat.le_refl _, rfl, (S9.out.pick [] (by decide) (by simp)).nilRow 46 2 none⟩
    have g12 : ¬ (kind < 1 ∨ 3 < kind) := by omega
    by_cases g3 : many < 1
    · obtain rfl : res = ([], 2, 0) := by rw [HRES.out, stepL, if_neg g12, if_pos (.inl g3)]
      clear g12
      have e0 := S1.out.cell 1 rfl (k := 0) rfl
      have e1 := S1.out.cell 1 rfl (k := 1) rfl
      have u0 := S1.out.froz 1 rfl (k := 0)
      have u1 := S1.out.froz 1 rfl (k := 1)
      have S9 := Lib.hid ((S1.out.set 1 rfl (k := 0) (.int .i64 2)).set 1 rfl (k := 1) (.int .i64 0))
      have f0 := S9.out.cell 1 rfl (k := 0) rfl
      have f1 := S9.out.cell 1 rfl (k := 1) rfl
      clear S1
      go_wp2
      refine bodyPost_ret (v := .tuple #[.slice none 0 0, .agg #[.int .i64 2, .int .i64 0]]) (by simp [results, Tryz.results23, asAddr, Result.andThen, go_sem, f0, f1]) rfl ?_
      exact ⟨none, 0, Nat.le_refl _, rfl, (S9.out.pick [] (by decide) (by simp)).nilRow 46 2 none⟩
    by_cases g4 : (S : Int) < many
    · obtain rfl : res = ([], 2, 0) := by rw [HRES.out, stepL, if_neg g12, if_pos (.inr g4)]
      clear g12
      have e0 := S1.out.cell 1 rfl (k := 0) rfl
      have e1 := S1.out.cell 1 rfl (k := 1) rfl
      have u0 := S1.out.froz 1 rfl (k := 0)
      have u1 := S1.out.froz 1 rfl (k := 1)
      have S9 := Lib.hid ((S1.out.set 1 rfl (k := 0) (.int .i64 2)).set 1 rfl (k := 1) (.int .i64 0))
      have f0 := S9.out.cell 1 rfl (k := 0) rfl
      have f1 := S9.out.cell 1 rfl (k := 1) rfl
      clear S1
      go_wp2
      refine bodyPost_ret (v := .tuple #[.slice none 0 0, .agg #[.int .i64 2, .int .i64 0]]) (by simp [results, Tryz.results23, asAddr, Result.andThen, go_sem, f0, f1]) rfl ?_
      exact ⟨none, 0, Nat.le_refl _, rfl, (S9.out.pick [] (by decide) (by simp)).nilRow 46 2 none⟩
    have g34 : ¬ (many < 1 ∨ (S : Int) < many) := by omega
    obtain ⟨m', hm'⟩ := Int.eq_ofNat_of_zero_le (show 0 ≤ many by omega)
    by_cases g5 : kind = 3
    · subst g5
      have cG : Hid (∀ V, Rd V V.heap.size 2 (A) (0) (ln.flatMap ncells) → Calls Tryz.prog 46 #[.int .i64 (S : Int), .slice (A) (0) c, .agg #[.int .i64 3, .int .i64 at', .int .i64 many]] V (StepRet V res)) := Lib.hid (fun V hV => by
        by_cases ho : at' < 0 ∨ (S : Int) - many < at'
        · rw [HRES.out, stepL, if_neg g12, if_neg g34, if_pos rfl, if_pos ho]
          exact give_out (A) (0) c S 3 at' many V hS (by omega) (by omega) ho
        · rw [HRES.out, stepL, if_neg g12, if_neg g34, if_pos rfl, if_neg ho]
          obtain ⟨a', ha'⟩ := Int.eq_ofNat_of_zero_le (show 0 ≤ at' by omega)
          subst ha' hm'
          exact give_any (A) (0) c S a' m' 3 ln V hV HL.out hn hS (by omega) (by omega) HOK.out)
      have HG := Lib.hid (And.intro g12 (And.intro g34 hm'))
      clear g12 g34 hm' HRES
      go_wp2_with fail
      refine (cG.out _ (HR.out _ h1)).mono ?_
      clear cG HR q0 q1 q2
      obtain ⟨pl, pe, pa⟩ := res
      rintro en w5 ⟨A5, c5, hc5, rfl, K5⟩
      have S5 := Lib.hid (S1.out.join K5)
      clear K5 S1
      simp only at hc5 S5 ⊢
      have e0 := S5.out.cell 1 rfl (k := 0) rfl
      have e1 := S5.out.cell 1 rfl (k := 1) rfl
      have u0 := S5.out.froz 1 rfl (k := 0)
      have u1 := S5.out.froz 1 rfl (k := 1)
      have S9 := Lib.hid ((S5.out.set 1 rfl (k := 0) (.int .i64 pe)).set 1 rfl (k := 1) (.int .i64 pa))
      have f0 := S9.out.cell 1 rfl (k := 0) rfl
      have f1 := S9.out.cell 1 rfl (k := 1) rfl
      clear S5
      go_wp2
      refine bodyPost_ret (v := .tuple #[.slice A5 pl.length c5, .agg #[.int .i64 pe, .int .i64 pa]]) (by simp [results, Tryz.results23, asAddr, Result.andThen, go_sem, f0, f1]) rfl ?_
      exact ⟨A5, c5, hc5, rfl, S9.out.pick [2] (by decide) (by simp)⟩
    · have hk3 : (kind == 3) = false := by simp [g5]
      have cG : Hid (∀ V, Rd V V.heap.size 2 (A) (0) (ln.flatMap ncells) → Calls Tryz.prog 47 #[.slice (A) (0) c, .agg #[.int .i64 kind, .int .i64 at', .int .i64 many]] V (StepRet V res)) := Lib.hid (fun V hV => by
        rw [HRES.out, stepL, if_neg g12, if_neg g34, if_neg g5]
        subst hm'
        rw [HL.out]
        cases hch : chAll (m' : Int).toNat (kind == 2) ln (0) with
        | none => exact take_none (A) (0) c m' kind at' ln V hV HL.out hn hch
        | some p =>
          obtain ⟨i, x⟩ := p
          have := (ok_mem HOK.out x (List.mem_of_getElem? (chAll_at hch).2.1)).2
          exact take_some (A) (0) c m' i kind at' ln x V hV HL.out hn hch (by omega))
      have HG := Lib.hid (And.intro g12 (And.intro g34 hm'))
      clear g12 g34 hm' HRES
      go_wp2_with fail
      refine (cG.out _ (HR.out _ h1)).mono ?_
      clear cG HR q0 q1 q2
      obtain ⟨pl, pe, pa⟩ := res
      rintro en w5 ⟨A5, c5, hc5, rfl, K5⟩
      have S5 := Lib.hid (S1.out.join K5)
      clear K5 S1
      simp only at hc5 S5 ⊢
      have e0 := S5.out.cell 1 rfl (k := 0) rfl
      have e1 := S5.out.cell 1 rfl (k := 1) rfl
      have u0 := S5.out.froz 1 rfl (k := 0)
      have u1 := S5.out.froz 1 rfl (k := 1)
      have S9 := Lib.hid ((S5.out.set 1 rfl (k := 0) (.int .i64 pe)).set 1 rfl (k := 1) (.int .i64 pa))
      have f0 := S9.out.cell 1 rfl (k := 0) rfl
      have f1 := S9.out.cell 1 rfl (k := 1) rfl
      clear S5
      go_wp2
      refine bodyPost_ret (v := .tuple #[.slice A5 pl.length c5, .agg #[.int .i64 pe, .int .i64 pa]]) (by simp [results, Tryz.results23, asAddr, Result.andThen, go_sem, f0, f1]) rfl ?_
      exact ⟨A5, c5, hc5, rfl, S9.out.pick [2] (by decide) (by simp)⟩
  · obtain ⟨m, rfl⟩ : ∃ m, n = m + 1 := ⟨n - 1, by omega⟩
    obtain ⟨x, hx⟩ : ∃ x, ln[m]? = some x := ⟨_, List.getElem?_eq_getElem (by rw [HL.out]; omega)⟩
    obtain ⟨b, off, rfl, hb, hc⟩ := HR0.out.at_ ncells_len (by omega)
    obtain ⟨hx1, hx2⟩ := ok_mem HOK.out x (List.mem_of_getElem? hx)
    have d0 : ∀ z : LaterOf wo, z.w.cell? ⟨b, off + m * 2, none⟩ = some (.int .i64 (x.a : Int)) := fun z => z.cell ((S0.out.below.cell hb).trans (hc m 0 x _ hx rfl))
    have d1 : ∀ z : LaterOf wo, z.w.cell? ⟨b, off + m * 2 + 1, none⟩ = some (.int .i64 (x.m : Int)) := fun z => z.cell ((S0.out.below.cell hb).trans (hc m 1 x _ hx rfl))
    have k1 : ((m + 1 : Nat) : Int) - 1 = (m : Int) := by omega
    have k2 : (0 : Int) ≤ (m : Int) := by omega
    have k3 : (m : Int) < ((m + 1 : Nat) : Int) := by omega
    have k4 : (0 : Int) < ((m + 1 : Nat) : Int) := by omega
    have k5 : ¬ (S : Int) < (x.a : Int) + (x.m : Int) := by omega
    clear hc hx
    go_upto_region 2 with (fail)
    refine wp_region_later (by kernel_rfl) (by kernel_rfl) ?_
    repeat (go_big_quiet_step ((go_at_call 45; exact Calls.later (cR.out _ (LaterOf.h _)))))
    refine wpQuiet_nil ?_; intro x1 hw'; obtain ⟨xq, hw''⟩ := hw'; obtain ⟨xw0, h1⟩ := xq; change x1 = xw0 at hw''; subst hw''
    have S1 := Lib.hid (S0.out.later h1)
    clear S0
    have q0 := S1.out.cell 0 rfl (k := 0) rfl
    have q1 := S1.out.cell 0 rfl (k := 1) rfl
    have q2 := S1.out.cell 0 rfl (k := 2) rfl
    by_cases g1 : kind < 1
    · obtain rfl : res = ([], 5, 0) := by rw [HRES.out, stepL, if_pos (.inl g1)]
      have e0 := S1.out.cell 1 rfl (k := 0) rfl
      have e1 := S1.out.cell 1 rfl (k := 1) rfl
      have u0 := S1.out.froz 1 rfl (k := 0)
      have u1 := S1.out.froz 1 rfl (k := 1)
      have S9 := Lib.hid ((S1.out.set 1 rfl (k := 0) (.int .i64 5)).set 1 rfl (k := 1) (.int .i64 0))
      have f0 := S9.out.cell 1 rfl (k := 0) rfl
      have f1 := S9.out.cell 1 rfl (k := 1) rfl
      clear S1
      go_wp2
      refine bodyPost_ret (v := .tuple #[.slice none 0 0, .agg #[.int .i64 5, .int .i64 0]]) (by simp [results, Tryz.results23, asAddr, Result.andThen, go_sem, f0, f1]) rfl ?_
      exact ⟨none, 0, Nat.le_refl _, rfl, (S9.out.pick [] (by decide) (by simp)).nilRow 46 2 none⟩
    by_cases g2 : 3 < kind
    · obtain rfl : res = ([], 5, 0) := by rw [HRES.out, stepL, if_pos (.inr g2)]
      have e0 := S1.out.cell 1 rfl (k := 0) rfl
      have e1 := S1.out.cell 1 rfl (k := 1) rfl
      have u0 := S1.out.froz 1 rfl (k := 0)
      have u1 := S1.out.froz 1 rfl (k := 1)
      have S9 := Lib.hid ((S1.out.set 1 rfl (k := 0) (.int .i64 5)).set 1 rfl (k := 1) (.int .i64 0))
      have f0 := S9.out.cell 1 rfl (k := 0) rfl
      have f1 := S9.out.cell 1 rfl (k := 1) rfl
      clear S1
      go_wp2
      refine bodyPost_ret (v := .tuple #[.slice none 0 0, .agg #[.int .i64 5, .int .i64 0]]) (by simp [results, Tryz.results23, asAddr, Result.andThen, go_sem, f0, f1]) rfl ?_
      exact ⟨none, 0, Nat.le_refl _, rfl, (S9.out.pick [] (by decide) (by simp)).nilRow 46 2 none⟩
    have g12 : ¬ (kind < 1 ∨ 3 < kind) := by omega
    by_cases g3 : many < 1
    · obtain rfl : res = ([], 2, 0) := by rw [HRES.out, stepL, if_neg g12, if_pos (.inl g3)]
      clear g12
      have e0 := S1.out.cell 1 rfl (k := 0) rfl
      have e1 := S1.out.cell 1 rfl (k := 1) rfl
      have u0 := S1.out.froz 1 rfl (k := 0)
      have u1 := S1.out.froz 1 rfl (k := 1)
      have S9 := Lib.hid ((S1.out.set 1 rfl (k := 0) (.int .i64 2)).set 1 rfl (k := 1) (.int .i64 0))
      have f0 := S9.out.cell 1 rfl (k := 0) rfl
      have f1 := S9.out.cell 1 rfl (k := 1) rfl
      clear S1
      go_wp2
      refine bodyPost_ret (v := .tuple #[.slice none 0 0, .agg #[.int .i64 2, .int .i64 0]]) (by simp [results, Tryz.results23, asAddr, Result.andThen, go_sem, f0, f1]) rfl ?_
      exact ⟨none, 0, Nat.le_refl _, rfl, (S9.out.pick [] (by decide) (by simp)).nilRow 46 2 none⟩
    by_cases g4 : (S : Int) < many
    · obtain rfl : res = ([], 2, 0) := by rw [HRES.out, stepL, if_neg g12, if_pos (.inr g4)]
      clear g12
      have e0 := S1.out.cell 1 rfl (k := 0) rfl
      have e1 := S1.out.cell 1 rfl (k := 1) rfl
      have u0 := S1.out.froz 1 rfl (k := 0)
      have u1 := S1.out.froz 1 rfl (k := 1)
      have S9 := Lib.hid ((S1.out.set 1 rfl (k := 0) (.int .i64 2)).set 1 rfl (k := 1) (.int .i64 0))
      have f0 := S9.out.cell 1 rfl (k := 0) rfl
      have f1 := S9.out.cell 1 rfl (k := 1) rfl
      clear S1
      go_wp2
      refine bodyPost_ret (v := .tuple #[.slice none 0 0, .agg #[.int .i64 2, .int .i64 0]]) (by simp [results, Tryz.results23, asAddr, Result.andThen, go_sem, f0, f1]) rfl ?_
      exact ⟨none, 0, Nat.le_refl _, rfl, (S9.out.pick [] (by decide) (by simp)).nilRow 46 2 none⟩
    have g34 : ¬ (many < 1 ∨ (S : Int) < many) := by omega
    obtain ⟨m', hm'⟩ := Int.eq_ofNat_of_zero_le (show 0 ≤ many by omega)
    by_cases g5 : kind = 3
    · subst g5
      have cG : Hid (∀ V, Rd V V.heap.size 2 (some ⟨b, off, none⟩) (m + 1) (ln.flatMap ncells) → Calls Tryz.prog 46 #[.int .i64 (S : Int), .slice (some ⟨b, off, none⟩) (m + 1) c, .agg #[.int .i64 3, .int .i64 at', .int .i64 many]] V (StepRet V res)) := Lib.hid (fun V hV => by
        by_cases ho : at' < 0 ∨ (S : Int) - many < at'
        · rw [HRES.out, stepL, if_neg g12, if_neg g34, if_pos rfl, if_pos ho]
          exact give_out (some ⟨b, off, none⟩) (m + 1) c S 3 at' many V hS (by omega) (by omega) ho
        · rw [HRES.out, stepL, if_neg g12, if_neg g34, if_pos rfl, if_neg ho]
          obtain ⟨a', ha'⟩ := Int.eq_ofNat_of_zero_le (show 0 ≤ at' by omega)
          subst ha' hm'
          exact give_any (some ⟨b, off, none⟩) (m + 1) c S a' m' 3 ln V hV HL.out hn hS (by omega) (by omega) HOK.out)
      have HG := Lib.hid (And.intro g12 (And.intro g34 hm'))
      clear g12 g34 hm' HRES
      go_wp2_with fail
      refine (cG.out _ (HR.out _ h1)).mono ?_
      clear cG HR q0 q1 q2
      obtain ⟨pl, pe, pa⟩ := res
      rintro en w5 ⟨A5, c5, hc5, rfl, K5⟩
      have S5 := Lib.hid (S1.out.join K5)
      clear K5 S1
      simp only at hc5 S5 ⊢
      have e0 := S5.out.cell 1 rfl (k := 0) rfl
      have e1 := S5.out.cell 1 rfl (k := 1) rfl
      have u0 := S5.out.froz 1 rfl (k := 0)
      have u1 := S5.out.froz 1 rfl (k := 1)
      have S9 := Lib.hid ((S5.out.set 1 rfl (k := 0) (.int .i64 pe)).set 1 rfl (k := 1) (.int .i64 pa))
      have f0 := S9.out.cell 1 rfl (k := 0) rfl
      have f1 := S9.out.cell 1 rfl (k := 1) rfl
      clear S5
      go_wp2
      refine bodyPost_ret (v := .tuple #[.slice A5 pl.length c5, .agg #[.int .i64 pe, .int .i64 pa]]) (by simp [results, Tryz.results23, asAddr, Result.andThen, go_sem, f0, f1]) rfl ?_
      exact ⟨A5, c5, hc5, rfl, S9.out.pick [2] (by decide) (by simp)⟩
    · have hk3 : (kind == 3) = false := by simp [g5]
      have cG : Hid (∀ V, Rd V V.heap.size 2 (some ⟨b, off, none⟩) (m + 1) (ln.flatMap ncells) → Calls Tryz.prog 47 #[.slice (some ⟨b, off, none⟩) (m + 1) c, .agg #[.int .i64 kind, .int .i64 at', .int .i64 many]] V (StepRet V res)) := Lib.hid (fun V hV => by
        rw [HRES.out, stepL, if_neg g12, if_neg g34, if_neg g5]
        subst hm'
        rw [HL.out]
        cases hch : chAll (m' : Int).toNat (kind == 2) ln (m + 1) with
        | none => exact take_none (some ⟨b, off, none⟩) (m + 1) c m' kind at' ln V hV HL.out hn hch
        | some p =>
          obtain ⟨i, x⟩ := p
          have := (ok_mem HOK.out x (List.mem_of_getElem? (chAll_at hch).2.1)).2
          exact take_some (some ⟨b, off, none⟩) (m + 1) c m' i kind at' ln x V hV HL.out hn hch (by omega))
      have HG := Lib.hid (And.intro g12 (And.intro g34 hm'))
      clear g12 g34 hm' HRES
      go_wp2_with fail
      refine (cG.out _ (HR.out _ h1)).mono ?_
      clear cG HR q0 q1 q2
      obtain ⟨pl, pe, pa⟩ := res
      rintro en w5 ⟨A5, c5, hc5, rfl, K5⟩
      have S5 := Lib.hid (S1.out.join K5)
      clear K5 S1
      simp only at hc5 S5 ⊢
      have e0 := S5.out.cell 1 rfl (k := 0) rfl
      have e1 := S5.out.cell 1 rfl (k := 1) rfl
      have u0 := S5.out.froz 1 rfl (k := 0)
      have u1 := S5.out.froz 1 rfl (k := 1)
      have S9 := Lib.hid ((S5.out.set 1 rfl (k := 0) (.int .i64 pe)).set 1 rfl (k := 1) (.int .i64 pa))
      have f0 := S9.out.cell 1 rfl (k := 0) rfl
      have f1 := S9.out.cell 1 rfl (k := 1) rfl
      clear S5
      go_wp2
      refine bodyPost_ret (v := .tuple #[.slice A5 pl.length c5, .agg #[.int .i64 pe, .int .i64 pa]]) (by simp [results, Tryz.results23, asAddr, Result.andThen, go_sem, f0, f1]) rfl ?_
      exact ⟨A5, c5, hc5, rfl, S9.out.pick [2] (by decide) (by simp)⟩
end Sp
end Go.Proofs.YtjopiepfjbnkbaaGreatDoor
/-! Walk of space.Play, and the plain law of its steps. Conditions: none beyond each theorem's own premises. -/
namespace Go.Proofs.YtjopiepfjbnkbaaGreatDoor
open Go.ChangeShapes Go.WideShapes Go.ChangeAt Go.RowKit
set_option linter.unusedVariables false
namespace Sp

theorem ok_takes {S m : Nat} {l : List N} {i : Nat} {x : N} {b : Bool} {n : Nat} (h : Ok S 0 l) (hm : 1 ≤ m) (hc : chAll m b l n = some (i, x)) : Ok S 0 (takeL l i m) := by
  obtain ⟨_, h2, h3⟩ := chAll_at hc
  exact (take_ok hm h3 l i 0 h h2).1
theorem stepL_ok {S : Nat} {l : List N} (h : Ok S 0 l) (k a m : Int) : Ok S 0 (stepL S l k a m).1 := by
  unfold stepL
  split
  · trivial
  split
  · trivial
  rename_i h1 h2
  split
  · split
    · trivial
    split
    · trivial
    rename_i h4 h5
    obtain ⟨a', ha'⟩ := Int.eq_ofNat_of_zero_le (show 0 ≤ a by omega)
    obtain ⟨m', hm'⟩ := Int.eq_ofNat_of_zero_le (show 0 ≤ m by omega)
    subst ha' hm'
    exact (give_law h (by omega) (by omega) (by simpa using h5)).1
  · obtain ⟨m', hm'⟩ := Int.eq_ofNat_of_zero_le (show 0 ≤ m by omega)
    subst hm'
    cases hc : chAll (m' : Int).toNat (k == 2) l l.length with
    | none => trivial
    | some p =>
      obtain ⟨i, x⟩ := p
      exact ok_takes h (by omega) hc
theorem gap_cells : Tryz.prog.cellsOf 46 = 2 := by kernel_rfl
theorem gap_parse {H : Type} {enc : TypeId × Value → H} {w : World} {base : Nat} {spare : Nat → Bool} {held : Bool} (n : Nat) (cs : List Value) (y : DataW H × List MemPlace)
    (h : DataW.trod enc Tryz.prog w base spare held n 46 cs = some y) : ∃ x : G, cs = x.cells ∧ True := by
  obtain ⟨hl, m, hf⟩ := parse_fields Tryz.underlying46 (by kernel_rfl) (by kernel_rfl) h
  obtain ⟨v0, z0, e0, t0⟩ := hf 0 _ rfl
  obtain ⟨v1, z1, e1, t1⟩ := hf 1 _ rfl
  obtain ⟨a, rfl, _⟩ := parse_int Tryz.underlying3 t0
  obtain ⟨b, rfl, _⟩ := parse_int Tryz.underlying3 t1
  match cs, hl with
  | [c0, c1], _ =>
    simp at e0 e1
    subst e0 e1
    exact ⟨⟨a, b⟩, rfl, trivial⟩
/-- an operation -/
structure O where
  (kind at_ many : Int)
def O.cells (x : O) : List Value := [.int .i64 x.kind, .int .i64 x.at_, .int .i64 x.many]
theorem O.len : ∀ x : O, x.cells.length = 3 := fun _ => rfl
/-- an answer -/
structure An where
  (err at_ : Int)
def An.cells (x : An) : List Value := [.int .i64 x.err, .int .i64 x.at_]
theorem An.len : ∀ x : An, x.cells.length = 2 := fun _ => rfl
theorem ans_info : (Tryz.prog.info? 55).map (fun i => (i.zero, i.size, i.bytes)) = some (some (.agg #[.int .i64 0, .int .i64 0]), 2, 16) := by kernel_rfl

def play (S : Nat) : List O → List N → List An × List N
  | [], l => ([], l)
  | o :: t, l => (⟨(stepL S l o.kind o.at_ o.many).2.1, (stepL S l o.kind o.at_ o.many).2.2⟩ :: (play S t (if (stepL S l o.kind o.at_ o.many).2.1 = 0 then (stepL S l o.kind o.at_ o.many).1 else l)).1,
      (play S t (if (stepL S l o.kind o.at_ o.many).2.1 = 0 then (stepL S l o.kind o.at_ o.many).1 else l)).2)
def whole (S : Nat) : List N := if 0 < S then [⟨0, S⟩] else []
theorem whole_ok (S : Nat) : Ok S 0 (whole S) := by
  unfold whole
  split
  · exact ⟨Nat.le_refl _, by simpa, by simp, trivial⟩
  · trivial
def PlayRet (w : World) (p : List An × List N) (e : Ending) (w' : World) : Prop :=
  ∃ A1 c1 A2 c2, e = .returned (.tuple #[.slice A1 p.1.length c1, .slice A2 p.2.length c2, .int .i64 0]) ∧
    Sep w w' [.row 55 2 (.slice A1 p.1.length c1) p.1.length (p.1.flatMap An.cells), .row 46 2 (.slice A2 p.2.length c2) p.2.length (p.2.flatMap ncells)]
set_option maxRecDepth 100000 in
set_option maxHeartbeats 3200000 in
theorem play_any (A : Option Addr) (n c S : Nat) (ops : List O) (w : World) (hr : Rd w w.heap.size 3 A n (ops.flatMap O.cells)) (hl : ops.length = n) (hn : n * 24 ≤ 140737488351232) (hS : S ≤ 4096) :
    Calls Tryz.prog 9 #[.int .i64 (S : Int), .slice A n c] w (PlayRet w (play S ops (whole S))) := by
  obtain ⟨ti, hti, t0, t1, t2⟩ := info_parts ans_info
  have HR := Lib.hid hr
  have HL := Lib.hid hl
  have s0 : ¬ (S : Int) < 0 := by omega
  have s1 : ¬ 4096 < S := by omega
  have s1' : ¬ (4096 : Int) < (S : Int) := by omega
  obtain ⟨l0, hl0⟩ : ∃ l0, l0 = whole S := ⟨_, rfl⟩
  have HOK0 : Hid (Ok S 0 l0) := Lib.hid (by rw [hl0]; exact whole_ok S)
  rw [← hl0]
  have HL0 := Lib.hid hl0
  clear hr hl hl0
  go_enter Tryz.func9, Tryz.ntmps9
  by_cases hs : 0 < S
  · have s2 : (0 : Int) < (S : Int) := by omega
    have hl0 : l0 = [⟨0, S⟩] := by rw [HL0.out, whole, if_pos hs]
    have S1 : Hid (Sep w (w.alloc (.cells #[.int .i64 0, .int .i64 (S : Int)] 46)) [.row 46 2 (.slice (some ⟨w.heap.size, 0, none⟩) l0.length 1) l0.length (l0.flatMap ncells), .row 55 2 (.slice none 0 0) 0 (([] : List An).flatMap An.cells)]) := Lib.hid (by
      rw [hl0]
      exact (((Sep.nil_ w).newRow 46 2 1 [.int .i64 ((0 : Nat) : Int), .int .i64 (S : Int)] rfl (by simp [maxLen])).nilRow 55 2 none))
    have hll : l0.length = 1 := by rw [hl0]; rfl
    have HLL := Lib.hid hll
    clear hl0 hll
    go_wp2
    generalize w.alloc (.cells #[.int .i64 0, .int .i64 (S : Int)] 46) = w1 at S1 ⊢
    generalize w.heap.size = g0 at S1 ⊢
    go_loopg [7, 8, 26] n (fun q v7 v8 i wr => ∃ (k : Nat) (A7 : Option Addr) (c7 : Nat) (A8 : Option Addr) (c8 : Nat) (lc : List N) (es : List An), k ≤ n ∧ q = n - k ∧ i = .int .i64 k ∧ v7 = .slice A7 lc.length c7 ∧ v8 = .slice A8 k c8 ∧ k ≤ c8 ∧ lc.length ≤ c7 ∧ Hid (es.length = k) ∧ Hid (Ok S 0 lc) ∧ Hid ((play S ops l0).1 = es ++ (play S (ops.drop k) lc).1 ∧ (play S ops l0).2 = (play S (ops.drop k) lc).2) ∧ Sep w wr [.row 46 2 (.slice A7 lc.length c7) lc.length (lc.flatMap ncells), .row 55 2 (.slice A8 k c8) k (es.flatMap An.cells)])
    case atStart => exact ⟨0, some ⟨g0, 0, none⟩, 1, none, 0, l0, [], Nat.zero_le _, rfl, rfl, by rw [HLL.out], rfl, Nat.le_refl _, by rw [HLL.out]; exact Nat.le_refl _, Lib.hid rfl, HOK0, Lib.hid ⟨rfl, rfl⟩, S1.out⟩
    case round =>
      clear S1
      obtain ⟨k, A7, c7, A8, c8, lc, es, hk, rfl, rfl, rfl, rfl, hc8, HLC, HEL, HOK, HF, hs⟩ := hrel
      have HS := Lib.hid hs
      clear hs
      by_cases hlt : k < n
      · obtain ⟨b, off, rfl, hb, hc⟩ := HR.out.at_ O.len (by omega)
        obtain ⟨o, ho⟩ : ∃ o, ops[k]? = some o := ⟨_, List.getElem?_eq_getElem (by rw [HL.out]; exact hlt)⟩
        have q0 : wr.cell? ⟨b, off + k * 3, none⟩ = some (.int .i64 o.kind) := (HS.out.below.cell hb).trans (hc k 0 o _ ho rfl)
        have q1 : wr.cell? ⟨b, off + k * 3 + 1, none⟩ = some (.int .i64 o.at_) := (HS.out.below.cell hb).trans (hc k 1 o _ ho rfl)
        have q2 : wr.cell? ⟨b, off + k * 3 + 2, none⟩ = some (.int .i64 o.many) := (HS.out.below.cell hb).trans (hc k 2 o _ ho rfl)
        have i0 : (0 : Int) ≤ (k : Int) := by omega
        have i1 : (k : Int) < (n : Int) := by omega
        obtain ⟨res, hres⟩ : ∃ r, r = stepL S lc o.kind o.at_ o.many := ⟨_, rfl⟩
        have HRES := Lib.hid hres
        have HSx : Hid (Sep w (wr.alloc (.cells #[.int .i64 o.kind, .int .i64 o.at_, .int .i64 o.many] 48)) [.row 46 2 (.slice A7 lc.length c7) lc.length (lc.flatMap ncells), .row 55 2 (.slice A8 k c8) k (es.flatMap An.cells), .cells wr.heap.size 48 o.cells]) := Lib.hid (HS.out.new 48 o.cells)
        have cS : Hid (∀ W, Rd W W.heap.size 2 A7 lc.length (lc.flatMap ncells) → Calls Tryz.prog 23 #[.int .i64 (S : Int), .slice A7 lc.length c7, .agg #[.int .i64 o.kind, .int .i64 o.at_, .int .i64 o.many]] W (StepRet W res)) := Lib.hid (fun W hW => by
          rw [hres]
          exact step_ok A7 _ c7 S _ _ _ lc W hW rfl hS HOK.out)
        have HP : Hid (play S (ops.drop k) lc = (⟨res.2.1, res.2.2⟩ :: (play S (ops.drop (k + 1)) (if res.2.1 = 0 then res.1 else lc)).1, (play S (ops.drop (k + 1)) (if res.2.1 = 0 then res.1 else lc)).2)) := Lib.hid (by rw [drop_at ho, play, hres])
        have HOK2 : Hid (Ok S 0 (if res.2.1 = 0 then res.1 else lc)) := Lib.hid (by
          split
          · rw [hres]; exact stepL_ok HOK.out _ _ _
          · exact HOK.out)
        clear hc ho hres
        obtain ⟨pl, pe, pa⟩ := res
        simp only at HP HOK2
        rw [HP.out] at HF
        have HEL2 : Hid ((es ++ [(⟨pe, pa⟩ : An)]).length = k + 1) := Lib.hid (by rw [List.length_append, HEL.out]; rfl)
        go_upto_region 10 with (fail)
        clear HS q0 q1 q2
        generalize wr.alloc (.cells #[.int .i64 o.kind, .int .i64 o.at_, .int .i64 o.many] 48) = wo at HSx ⊢
        generalize wr.heap.size = gx at HSx ⊢
        have p0 := HSx.out.cell 2 rfl (k := 0) rfl
        have p1 := HSx.out.cell 2 rfl (k := 1) rfl
        have p2 := HSx.out.cell 2 rfl (k := 2) rfl
        go_wp2_with fail
        refine (cS.out _ (HSx.out.rd 0 rfl)).mono ?_; rintro en w1 ⟨A, c, hc', rfl, K⟩
        have HS1 : Hid (Sep w (w1.alloc (.cells #[.int .i64 pe, .int .i64 pa] 55)) [.row 46 2 (.slice A7 lc.length c7) lc.length (lc.flatMap ncells), .row 55 2 (.slice A8 k c8) k (es.flatMap An.cells), .row 46 2 (.slice A pl.length c) pl.length (pl.flatMap ncells), .cells w1.heap.size 55 [.int .i64 pe, .int .i64 pa]]) := Lib.hid (((HSx.out.join K).new 55 [.int .i64 pe, .int .i64 pa]).pick [0, 1, 3, 4] (by decide) (by simp))
        clear K HSx p0 p1 p2 cS
        simp only
        go_upto_region 11 with (fail)
        generalize w1.alloc (.cells #[.int .i64 pe, .int .i64 pa] 55) = w2 at HS1 ⊢
        generalize w1.heap.size = ga at HS1 ⊢
        have f0 := HS1.out.cell 3 rfl (k := 0) rfl
        have f1 := HS1.out.cell 3 rfl (k := 1) rfl
        have hnew := Lib.hid (Rd.of_own (own_new w2 55 #[.int .i64 pe, .int .i64 pa] 2 1 rfl (by simp [maxLen]) (Nat.le_refl _)))
        by_cases he : pe = 0
        · have he2 : (pe == 0) = true := by simp [he]
          rw [if_pos he] at HF HOK2
          subst he
          clear he2
          go_wp2_with (at_builtin; refine wpList_append_sep (HS1.out.alloc _) 1 rfl (.tmp 41) (.tmp 43) 49 rfl 55 ti (.agg #[.int .i64 0, .int .i64 0]) 2 16 Tryz.underlying49 hti t0 t1 t2 rfl (by omega) _ k _ rfl rfl _ _ 1 1 _ rfl hnew.out (by simp [Value.oneCell']) (by simp only [maxLen]; omega) (by omega) ?_; intro A6 c6 w6 hc6 hs6 H6'; have H6 := Lib.hid H6'; clear H6')
          go_roundg (n - (k + 1))
          case measure => omega
          case rel => exact ⟨k + 1, A, c, A6, c6, pl, es ++ [⟨0, pa⟩], by omega, rfl, by go_num, rfl, rfl, hc6, hc', HEL2, HOK2, Lib.hid (by rw [HF.out.1, List.append_assoc]; exact ⟨rfl, HF.out.2⟩), by rw [List.flatMap_append]; exact H6.out.pick [2, 1] (by decide) (by simp)⟩
        · have he2 : (pe == 0) = false := by simp [he]
          rw [if_neg he] at HF HOK2
          go_wp2_with (at_builtin; refine wpList_append_sep (HS1.out.alloc _) 1 rfl (.tmp 41) (.tmp 43) 49 rfl 55 ti (.agg #[.int .i64 0, .int .i64 0]) 2 16 Tryz.underlying49 hti t0 t1 t2 rfl (by omega) _ k _ rfl rfl _ _ 1 1 _ rfl hnew.out (by simp [Value.oneCell']) (by simp only [maxLen]; omega) (by omega) ?_; intro A6 c6 w6 hc6 hs6 H6'; have H6 := Lib.hid H6'; clear H6')
          go_roundg (n - (k + 1))
          case measure => omega
          case rel => exact ⟨k + 1, A7, c7, A6, c6, lc, es ++ [⟨pe, pa⟩], by omega, rfl, by go_num, rfl, rfl, hc6, HLC, HEL2, HOK2, Lib.hid (by rw [HF.out.1, List.append_assoc]; exact ⟨rfl, HF.out.2⟩), by rw [List.flatMap_append]; exact H6.out.pick [0, 1] (by decide) (by simp)⟩
      · obtain rfl : k = n := by omega
        rw [List.drop_of_length_le (by rw [HL.out]; omega)] at HF
        have HFE := Lib.hid HF.out
        clear HF
        go_wp2
        refine bodyPost_ret (v := .tuple #[.slice A8 k c8, .slice A7 lc.length c7, .int .i64 0]) (by simp [results, Tryz.results9]) rfl ?_
        have e1 : (play S ops l0).1 = es := by rw [HFE.out.1]; simp [play]
        have e2 : (play S ops l0).2 = lc := HFE.out.2
        unfold PlayRet
        rw [e1, e2, HEL.out]
        exact ⟨A8, c8, A7, c7, rfl, HS.out.pick [1, 0] (by decide) (by simp)⟩
  · have s2 : ¬ (0 : Int) < (S : Int) := by omega
    have hl0 : l0 = [] := by rw [HL0.out, whole, if_neg hs]
    have S1 : Hid (Sep w w [.row 46 2 (.slice none l0.length 0) l0.length (l0.flatMap ncells), .row 55 2 (.slice none 0 0) 0 (([] : List An).flatMap An.cells)]) := Lib.hid (by
      rw [hl0]
      exact ((Sep.nil_ w).nilRow 46 2 none).nilRow 55 2 none)
    have hll : l0.length = 0 := by rw [hl0]; rfl
    have HLL := Lib.hid hll
    clear hl0 hll
    go_wp2
    go_loopg [7, 8, 26] n (fun q v7 v8 i wr => ∃ (k : Nat) (A7 : Option Addr) (c7 : Nat) (A8 : Option Addr) (c8 : Nat) (lc : List N) (es : List An), k ≤ n ∧ q = n - k ∧ i = .int .i64 k ∧ v7 = .slice A7 lc.length c7 ∧ v8 = .slice A8 k c8 ∧ k ≤ c8 ∧ lc.length ≤ c7 ∧ Hid (es.length = k) ∧ Hid (Ok S 0 lc) ∧ Hid ((play S ops l0).1 = es ++ (play S (ops.drop k) lc).1 ∧ (play S ops l0).2 = (play S (ops.drop k) lc).2) ∧ Sep w wr [.row 46 2 (.slice A7 lc.length c7) lc.length (lc.flatMap ncells), .row 55 2 (.slice A8 k c8) k (es.flatMap An.cells)])
    case atStart => exact ⟨0, none, 0, none, 0, l0, [], Nat.zero_le _, rfl, rfl, by rw [HLL.out], rfl, Nat.le_refl _, by rw [HLL.out]; exact Nat.le_refl _, Lib.hid rfl, HOK0, Lib.hid ⟨rfl, rfl⟩, S1.out⟩
    case round =>
      clear S1
      obtain ⟨k, A7, c7, A8, c8, lc, es, hk, rfl, rfl, rfl, rfl, hc8, HLC, HEL, HOK, HF, hs⟩ := hrel
      have HS := Lib.hid hs
      clear hs
      by_cases hlt : k < n
      · obtain ⟨b, off, rfl, hb, hc⟩ := HR.out.at_ O.len (by omega)
        obtain ⟨o, ho⟩ : ∃ o, ops[k]? = some o := ⟨_, List.getElem?_eq_getElem (by rw [HL.out]; exact hlt)⟩
        have q0 : wr.cell? ⟨b, off + k * 3, none⟩ = some (.int .i64 o.kind) := (HS.out.below.cell hb).trans (hc k 0 o _ ho rfl)
        have q1 : wr.cell? ⟨b, off + k * 3 + 1, none⟩ = some (.int .i64 o.at_) := (HS.out.below.cell hb).trans (hc k 1 o _ ho rfl)
        have q2 : wr.cell? ⟨b, off + k * 3 + 2, none⟩ = some (.int .i64 o.many) := (HS.out.below.cell hb).trans (hc k 2 o _ ho rfl)
        have i0 : (0 : Int) ≤ (k : Int) := by omega
        have i1 : (k : Int) < (n : Int) := by omega
        obtain ⟨res, hres⟩ : ∃ r, r = stepL S lc o.kind o.at_ o.many := ⟨_, rfl⟩
        have HRES := Lib.hid hres
        have HSx : Hid (Sep w (wr.alloc (.cells #[.int .i64 o.kind, .int .i64 o.at_, .int .i64 o.many] 48)) [.row 46 2 (.slice A7 lc.length c7) lc.length (lc.flatMap ncells), .row 55 2 (.slice A8 k c8) k (es.flatMap An.cells), .cells wr.heap.size 48 o.cells]) := Lib.hid (HS.out.new 48 o.cells)
        have cS : Hid (∀ W, Rd W W.heap.size 2 A7 lc.length (lc.flatMap ncells) → Calls Tryz.prog 23 #[.int .i64 (S : Int), .slice A7 lc.length c7, .agg #[.int .i64 o.kind, .int .i64 o.at_, .int .i64 o.many]] W (StepRet W res)) := Lib.hid (fun W hW => by
          rw [hres]
          exact step_ok A7 _ c7 S _ _ _ lc W hW rfl hS HOK.out)
        have HP : Hid (play S (ops.drop k) lc = (⟨res.2.1, res.2.2⟩ :: (play S (ops.drop (k + 1)) (if res.2.1 = 0 then res.1 else lc)).1, (play S (ops.drop (k + 1)) (if res.2.1 = 0 then res.1 else lc)).2)) := Lib.hid (by rw [drop_at ho, play, hres])
        have HOK2 : Hid (Ok S 0 (if res.2.1 = 0 then res.1 else lc)) := Lib.hid (by
          split
          · rw [hres]; exact stepL_ok HOK.out _ _ _
          · exact HOK.out)
        clear hc ho hres
        obtain ⟨pl, pe, pa⟩ := res
        simp only at HP HOK2
        rw [HP.out] at HF
        have HEL2 : Hid ((es ++ [(⟨pe, pa⟩ : An)]).length = k + 1) := Lib.hid (by rw [List.length_append, HEL.out]; rfl)
        go_upto_region 10 with (fail)
        clear HS q0 q1 q2
        generalize wr.alloc (.cells #[.int .i64 o.kind, .int .i64 o.at_, .int .i64 o.many] 48) = wo at HSx ⊢
        generalize wr.heap.size = gx at HSx ⊢
        have p0 := HSx.out.cell 2 rfl (k := 0) rfl
        have p1 := HSx.out.cell 2 rfl (k := 1) rfl
        have p2 := HSx.out.cell 2 rfl (k := 2) rfl
        go_wp2_with fail
        refine (cS.out _ (HSx.out.rd 0 rfl)).mono ?_; rintro en w1 ⟨A, c, hc', rfl, K⟩
        have HS1 : Hid (Sep w (w1.alloc (.cells #[.int .i64 pe, .int .i64 pa] 55)) [.row 46 2 (.slice A7 lc.length c7) lc.length (lc.flatMap ncells), .row 55 2 (.slice A8 k c8) k (es.flatMap An.cells), .row 46 2 (.slice A pl.length c) pl.length (pl.flatMap ncells), .cells w1.heap.size 55 [.int .i64 pe, .int .i64 pa]]) := Lib.hid (((HSx.out.join K).new 55 [.int .i64 pe, .int .i64 pa]).pick [0, 1, 3, 4] (by decide) (by simp))
        clear K HSx p0 p1 p2 cS
        simp only
        go_upto_region 11 with (fail)
        generalize w1.alloc (.cells #[.int .i64 pe, .int .i64 pa] 55) = w2 at HS1 ⊢
        generalize w1.heap.size = ga at HS1 ⊢
        have f0 := HS1.out.cell 3 rfl (k := 0) rfl
        have f1 := HS1.out.cell 3 rfl (k := 1) rfl
        have hnew := Lib.hid (Rd.of_own (own_new w2 55 #[.int .i64 pe, .int .i64 pa] 2 1 rfl (by simp [maxLen]) (Nat.le_refl _)))
        by_cases he : pe = 0
        · have he2 : (pe == 0) = true := by simp [he]
          rw [if_pos he] at HF HOK2
          subst he
          clear he2
          go_wp2_with (at_builtin; refine wpList_append_sep (HS1.out.alloc _) 1 rfl (.tmp 41) (.tmp 43) 49 rfl 55 ti (.agg #[.int .i64 0, .int .i64 0]) 2 16 Tryz.underlying49 hti t0 t1 t2 rfl (by omega) _ k _ rfl rfl _ _ 1 1 _ rfl hnew.out (by simp [Value.oneCell']) (by simp only [maxLen]; omega) (by omega) ?_; intro A6 c6 w6 hc6 hs6 H6'; have H6 := Lib.hid H6'; clear H6')
          go_roundg (n - (k + 1))
          case measure => omega
          case rel => exact ⟨k + 1, A, c, A6, c6, pl, es ++ [⟨0, pa⟩], by omega, rfl, by go_num, rfl, rfl, hc6, hc', HEL2, HOK2, Lib.hid (by rw [HF.out.1, List.append_assoc]; exact ⟨rfl, HF.out.2⟩), by rw [List.flatMap_append]; exact H6.out.pick [2, 1] (by decide) (by simp)⟩
        · have he2 : (pe == 0) = false := by simp [he]
          rw [if_neg he] at HF HOK2
          go_wp2_with (at_builtin; refine wpList_append_sep (HS1.out.alloc _) 1 rfl (.tmp 41) (.tmp 43) 49 rfl 55 ti (.agg #[.int .i64 0, .int .i64 0]) 2 16 Tryz.underlying49 hti t0 t1 t2 rfl (by omega) _ k _ rfl rfl _ _ 1 1 _ rfl hnew.out (by simp [Value.oneCell']) (by simp only [maxLen]; omega) (by omega) ?_; intro A6 c6 w6 hc6 hs6 H6'; have H6 := Lib.hid H6'; clear H6')
          go_roundg (n - (k + 1))
          case measure => omega
          case rel => exact ⟨k + 1, A7, c7, A6, c6, lc, es ++ [⟨pe, pa⟩], by omega, rfl, by go_num, rfl, rfl, hc6, HLC, HEL2, HOK2, Lib.hid (by rw [HF.out.1, List.append_assoc]; exact ⟨rfl, HF.out.2⟩), by rw [List.flatMap_append]; exact H6.out.pick [0, 1] (by decide) (by simp)⟩
      · obtain rfl : k = n := by omega
        rw [List.drop_of_length_le (by rw [HL.out]; omega)] at HF
        have HFE := Lib.hid HF.out
        clear HF
        go_wp2
        refine bodyPost_ret (v := .tuple #[.slice A8 k c8, .slice A7 lc.length c7, .int .i64 0]) (by simp [results, Tryz.results9]) rfl ?_
        have e1 : (play S ops l0).1 = es := by rw [HFE.out.1]; simp [play]
        have e2 : (play S ops l0).2 = lc := HFE.out.2
        unfold PlayRet
        rw [e1, e2, HEL.out]
        exact ⟨A8, c8, A7, c7, rfl, HS.out.pick [1, 0] (by decide) (by simp)⟩

theorem play_len {S : Nat} : ∀ (ops : List O) (l : List N), Ok S 0 l → (play S ops l).1.length = ops.length ∧ (play S ops l).2.length ≤ S
  | [], l, h => ⟨rfl, ok_len l 0 h⟩
  | o :: t, l, h => by
    have h2 : Ok S 0 (if (stepL S l o.kind o.at_ o.many).2.1 = 0 then (stepL S l o.kind o.at_ o.many).1 else l) := by
      split
      · exact stepL_ok h _ _ _
      · exact h
    obtain ⟨h3, h4⟩ := play_len t _ h2
    rw [play]
    exact ⟨by rw [List.length_cons, List.length_cons, h3], h4⟩
end Sp
end Go.Proofs.YtjopiepfjbnkbaaGreatDoor
