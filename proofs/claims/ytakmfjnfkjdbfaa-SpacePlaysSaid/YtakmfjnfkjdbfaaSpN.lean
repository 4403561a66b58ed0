/-
  Walk of the reference's NStep. Conditions: none.
-/
import Derived.Test.YtakmfjnfkjdbfaaSpL
import Derived.Test.YtakmfjnfkjdbfaaSpW4
namespace Go.Proofs.Ytakmfjnfkjdbfaa
open Go.RowKit
set_option linter.unusedVariables false
namespace Sp

set_option maxHeartbeats 800000 in
theorem no_any (e : Int) (w : World) : Calls Try.prog 48 #[.int .i64 e] w (StepRet w ([], e, 0)) := by
  go_enter Try.func48, Try.ntmps48
  go_wp2
  refine bodyPost_ret (v := .tuple #[.slice none 0 0, .agg #[.int .i64 e, .int .i64 0]]) (by simp [results, Try.results48, asAddr, Result.andThen, go_sem]) rfl ?_
  exact ⟨none, 0, Nat.le_refl _, rfl, ((Sep.nil_ w).alloc _).nilRow 50 2 none⟩

set_option maxRecDepth 100000 in
set_option maxHeartbeats 1600000 in
theorem nstep_out (A : Option Addr) (n c : Nat) (S kind at' many : Int) (w : World) (hS : S < 0 ∨ 4096 < S) :
    Calls Try.prog 21 #[.int .i64 S, .slice A n c, .agg #[.int .i64 kind, .int .i64 at', .int .i64 many]] w (StepRet w ([], 1, 0)) := by
  have S0 : Hid (Sep w ((w.alloc (.cells #[.int .i64 kind, .int .i64 at', .int .i64 many] 39)).alloc (.cells #[.int .i64 0, .int .i64 0] 41)) [.cells w.heap.size 39 [.int .i64 kind, .int .i64 at', .int .i64 many], .cells (w.heap.size + 1) 41 [.int .i64 0, .int .i64 0]]) := Lib.hid (by
    have := ((Sep.nil_ w).new 39 [.int .i64 kind, .int .i64 at', .int .i64 many]).new 41 [.int .i64 0, .int .i64 0]
    simpa using this)
  have HSB := Lib.hid hS
  clear hS
  go_enter Try.func21, Try.ntmps21
  go_upto_region 1 with (fail)
  generalize ((w.alloc (.cells #[.int .i64 kind, .int .i64 at', .int .i64 many] 39)).alloc (.cells #[.int .i64 0, .int .i64 0] 41)) = wo at * 
  generalize w.heap.size + 1 = ga at S0 ⊢
  generalize hgo : w.heap.size = go at S0 ⊢
  go_wp2_with fail
  refine (nrow_out A n c S _ HSB.out).mono ?_; rintro en w1 ⟨rfl, hb1⟩
  have S1 := Lib.hid (S0.out.later hb1)
  clear S0 hb1
  go_wp2_with fail
  refine (no_any (1) _).mono ?_; rintro en w5 ⟨A5, c5, hc5, rfl, K5⟩
  have S5 := Lib.hid (S1.out.join K5)
  clear K5 S1
  have e0 := S5.out.cell 1 rfl (k := 0) rfl
  have e1 := S5.out.cell 1 rfl (k := 1) rfl
  have u0 := S5.out.froz 1 rfl (k := 0)
  have u1 := S5.out.froz 1 rfl (k := 1)
  have S9 := Lib.hid ((S5.out.set 1 rfl (k := 0) (.int .i64 (1))).set 1 rfl (k := 1) (.int .i64 0))
  have f0 := S9.out.cell 1 rfl (k := 0) rfl
  have f1 := S9.out.cell 1 rfl (k := 1) rfl
  clear S5
  go_wp2
  refine bodyPost_ret (v := .tuple #[.slice A5 0 c5, .agg #[.int .i64 (1), .int .i64 0]]) (by simp [results, Try.results21, asAddr, Result.andThen, go_sem, f0, f1]) rfl ?_
  exact ⟨A5, c5, hc5, rfl, S9.out.pick [2] (by decide) (by simp)⟩

set_option maxRecDepth 100000 in
set_option maxHeartbeats 1600000 in
theorem nstep_bad (A : Option Addr) (n c S : Nat) (kind at' many : Int) (l : List G) (w : World) (hr : Rd w w.heap.size 2 A n (l.flatMap G.cells)) (hl : l.length = n) (hn : n ≤ 9223372036854775807) (hS : S ≤ 4096) (hbad : okG (S : Int) (-1) l = false) :
    Calls Try.prog 21 #[.int .i64 (S : Int), .slice A n c, .agg #[.int .i64 kind, .int .i64 at', .int .i64 many]] w (StepRet w ([], 1, 0)) := by
  have S0 : Hid (Sep w ((w.alloc (.cells #[.int .i64 kind, .int .i64 at', .int .i64 many] 39)).alloc (.cells #[.int .i64 0, .int .i64 0] 41)) [.cells w.heap.size 39 [.int .i64 kind, .int .i64 at', .int .i64 many], .cells (w.heap.size + 1) 41 [.int .i64 0, .int .i64 0]]) := Lib.hid (by
    have := ((Sep.nil_ w).new 39 [.int .i64 kind, .int .i64 at', .int .i64 many]).new 41 [.int .i64 0, .int .i64 0]
    simpa using this)
  have cR := Lib.hid (nrow_any A n c S l _ (hr.later S0.out.below) hl hn hS)
  have HB := Lib.hid hbad
  clear hr hl hbad
  go_enter Try.func21, Try.ntmps21
  go_upto_region 1 with (fail)
  generalize ((w.alloc (.cells #[.int .i64 kind, .int .i64 at', .int .i64 many] 39)).alloc (.cells #[.int .i64 0, .int .i64 0] 41)) = wo at * 
  generalize w.heap.size + 1 = ga at S0 ⊢
  generalize hgo : w.heap.size = go at S0 ⊢
  go_wp2_with fail
  refine cR.out.mono ?_; rintro en w1 (⟨_, rfl, hb1⟩ | ⟨ln, A', c', hln, hok, hc', rfl, K⟩)
  · have S1 := Lib.hid (S0.out.later hb1)
    clear S0 hb1 cR
    go_wp2_with fail
    refine (no_any (1) _).mono ?_; rintro en w5 ⟨A5, c5, hc5, rfl, K5⟩
    have S5 := Lib.hid (S1.out.join K5)
    clear K5 S1
    have e0 := S5.out.cell 1 rfl (k := 0) rfl
    have e1 := S5.out.cell 1 rfl (k := 1) rfl
    have u0 := S5.out.froz 1 rfl (k := 0)
    have u1 := S5.out.froz 1 rfl (k := 1)
    have S9 := Lib.hid ((S5.out.set 1 rfl (k := 0) (.int .i64 (1))).set 1 rfl (k := 1) (.int .i64 0))
    have f0 := S9.out.cell 1 rfl (k := 0) rfl
    have f1 := S9.out.cell 1 rfl (k := 1) rfl
    clear S5
    go_wp2
    refine bodyPost_ret (v := .tuple #[.slice A5 0 c5, .agg #[.int .i64 (1), .int .i64 0]]) (by simp [results, Try.results21, asAddr, Result.andThen, go_sem, f0, f1]) rfl ?_
    exact ⟨A5, c5, hc5, rfl, S9.out.pick [2] (by decide) (by simp)⟩
  · exfalso
    have h1 := ok_okG ln 0 hok
    rw [← hln] at h1
    have h2 : okG (S : Int) (-1) l = true := by simpa using h1
    rw [HB.out] at h2
    cases h2

theorem part_seg {S : Nat} {ln : List N} (h : Ok S 0 ln) : part (seg S 0 ln) S = ln := by
  unfold part
  rw [List.take_of_length_le (by rw [seg_len ln 0 h (Nat.zero_le _)]; omega)]
  exact gaps_row h
/-- what the loop over the gaps holds: where, and how many -/
def atI : Option (Nat × N) → Int × Int
  | none => (-1, 0)
  | some p => ((p.2.a : Int), (p.2.m : Int))
/-- the row behind the change -/
theorem row_is {S a m : Nat} {ln l' : List N} {b : Bool} {cur : List Bool} (h' : Ok S 0 l') (hl : cur.length = S) (hm : ∀ k, mem l' k = (if a ≤ k ∧ k < a + m then b else mem ln k)) (hc : ∀ k, k < S → cur[k]? = some (if a ≤ k ∧ k < a + m then b else mem ln k)) : cur = seg S 0 l' :=
  seg_ext h' hl fun k hk => by rw [hc k hk, hm]
theorem mem_bool {l : List Bool} {k : Nat} {x : Bool} (h : l[k]? = some x) : (l.flatMap bcell)[k]? = some (.bool x) := by
  have := flat_get bcell_len l k 0 x h (by omega)
  rw [Nat.mul_one, Nat.add_zero] at this
  exact this
set_option maxRecDepth 100000 in
set_option maxHeartbeats 6400000 in
theorem nstep_ok (A : Option Addr) (n c S : Nat) (kind at' many : Int) (l : List G) (ln0 : List N) (w : World) (hr : Rd w w.heap.size 2 A n (l.flatMap G.cells)) (hl : l.length = n) (hn : n ≤ 9223372036854775807) (hS : S ≤ 4096) (hln0 : l = ln0.map G.of) (hok0 : Ok S 0 ln0) :
    Calls Try.prog 21 #[.int .i64 (S : Int), .slice A n c, .agg #[.int .i64 kind, .int .i64 at', .int .i64 many]] w (StepRet w (stepL S ln0 kind at' many)) := by
  have S0 : Hid (Sep w ((w.alloc (.cells #[.int .i64 kind, .int .i64 at', .int .i64 many] 39)).alloc (.cells #[.int .i64 0, .int .i64 0] 41)) [.cells w.heap.size 39 [.int .i64 kind, .int .i64 at', .int .i64 many], .cells (w.heap.size + 1) 41 [.int .i64 0, .int .i64 0]]) := Lib.hid (by
    have := ((Sep.nil_ w).new 39 [.int .i64 kind, .int .i64 at', .int .i64 many]).new 41 [.int .i64 0, .int .i64 0]
    simpa using this)
  have cR := Lib.hid (nrow_any A n c S l _ (hr.later S0.out.below) hl hn hS)
  have HLN := Lib.hid hln0
  obtain ⟨res, hres⟩ : ∃ r, r = stepL S ln0 kind at' many := ⟨_, rfl⟩
  rw [← hres]
  have HRES := Lib.hid hres
  have HOK := Lib.hid hok0
  clear hr hl hln0 hres hok0
  go_enter Try.func21, Try.ntmps21
  go_upto_region 1 with (fail)
  generalize ((w.alloc (.cells #[.int .i64 kind, .int .i64 at', .int .i64 many] 39)).alloc (.cells #[.int .i64 0, .int .i64 0] 41)) = wo at * 
  generalize w.heap.size + 1 = ga at S0 ⊢
  generalize hgo : w.heap.size = go at S0 ⊢
  go_wp2_with fail
  refine cR.out.mono ?_; rintro en w1 (⟨hbad, _⟩ | ⟨ln, A', c', hln, hok, hc', rfl, K⟩)
  · exfalso
    have h1 := ok_okG ln0 0 HOK.out
    rw [← HLN.out] at h1
    have h2 : okG (S : Int) (-1) l = true := by simpa using h1
    rw [hbad] at h2
    cases h2
  obtain rfl : ln = ln0 := by
    have := hln.symm.trans HLN.out
    exact (List.map_inj_right (f := G.of) (fun a b hab => of_inj hab)).1 this
  have S1 := Lib.hid (S0.out.join K)
  have HC' := Lib.hid hc'
  have HNL : Hid (ln.length ≤ 4096) := Lib.hid (by have := ok_len ln 0 HOK.out; omega)
  clear hln hok K S0 cR HLN hc'
  have q0 := S1.out.cell 0 rfl (k := 0) rfl
  have q1 := S1.out.cell 0 rfl (k := 1) rfl
  have q2 := S1.out.cell 0 rfl (k := 2) rfl
  by_cases g12 : kind < 1 ∨ 3 < kind
  · obtain rfl : res = ([], 5, 0) := by rw [HRES.out, stepL, if_pos g12]
    have k1 : ¬ kind = 1 := by omega
    have k2 : ¬ kind = 2 := by omega
    have k3 : ¬ kind = 3 := by omega
    have k1' : (kind != 1) = true := by simp [k1]
    have k2' : (kind != 2) = true := by simp [k2]
    have k3' : (kind != 3) = true := by simp [k3]
    clear g12
    go_wp2_with fail
    refine (no_any (5) _).mono ?_; rintro en w5 ⟨A5, c5, hc5, rfl, K5⟩
    have S5 := Lib.hid (S1.out.join K5)
    clear K5 S1
    have e0 := S5.out.cell 1 rfl (k := 0) rfl
    have e1 := S5.out.cell 1 rfl (k := 1) rfl
    have u0 := S5.out.froz 1 rfl (k := 0)
    have u1 := S5.out.froz 1 rfl (k := 1)
    have S9 := Lib.hid ((S5.out.set 1 rfl (k := 0) (.int .i64 (5))).set 1 rfl (k := 1) (.int .i64 0))
    have f0 := S9.out.cell 1 rfl (k := 0) rfl
    have f1 := S9.out.cell 1 rfl (k := 1) rfl
    clear S5
    go_wp2
    refine bodyPost_ret (v := .tuple #[.slice A5 0 c5, .agg #[.int .i64 (5), .int .i64 0]]) (by simp [results, Try.results21, asAddr, Result.andThen, go_sem, f0, f1]) rfl ?_
    exact ⟨A5, c5, hc5, rfl, S9.out.pick [3] (by decide) (by simp)⟩
  by_cases g34 : many < 1 ∨ (S : Int) < many
  · obtain rfl : res = ([], 2, 0) := by rw [HRES.out, stepL, if_neg g12, if_pos g34]
    have HG := Lib.hid g34
    have hk : kind = 1 ∨ kind = 2 ∨ kind = 3 := by omega
    clear g12 g34
    by_cases h1 : many < 1
    · rcases hk with rfl | rfl | rfl
      all_goals
        go_wp2_with fail
        refine (no_any (2) _).mono ?_; rintro en w5 ⟨A5, c5, hc5, rfl, K5⟩
        have S5 := Lib.hid (S1.out.join K5)
        clear K5 S1
        have e0 := S5.out.cell 1 rfl (k := 0) rfl
        have e1 := S5.out.cell 1 rfl (k := 1) rfl
        have u0 := S5.out.froz 1 rfl (k := 0)
        have u1 := S5.out.froz 1 rfl (k := 1)
        have S9 := Lib.hid ((S5.out.set 1 rfl (k := 0) (.int .i64 (2))).set 1 rfl (k := 1) (.int .i64 0))
        have f0 := S9.out.cell 1 rfl (k := 0) rfl
        have f1 := S9.out.cell 1 rfl (k := 1) rfl
        clear S5
        go_wp2
        refine bodyPost_ret (v := .tuple #[.slice A5 0 c5, .agg #[.int .i64 (2), .int .i64 0]]) (by simp [results, Try.results21, asAddr, Result.andThen, go_sem, f0, f1]) rfl ?_
        exact ⟨A5, c5, hc5, rfl, S9.out.pick [3] (by decide) (by simp)⟩
    · have h2 := HG.out.resolve_left h1
      rcases hk with rfl | rfl | rfl
      all_goals
        go_wp2_with fail
        refine (no_any (2) _).mono ?_; rintro en w5 ⟨A5, c5, hc5, rfl, K5⟩
        have S5 := Lib.hid (S1.out.join K5)
        clear K5 S1
        have e0 := S5.out.cell 1 rfl (k := 0) rfl
        have e1 := S5.out.cell 1 rfl (k := 1) rfl
        have u0 := S5.out.froz 1 rfl (k := 0)
        have u1 := S5.out.froz 1 rfl (k := 1)
        have S9 := Lib.hid ((S5.out.set 1 rfl (k := 0) (.int .i64 (2))).set 1 rfl (k := 1) (.int .i64 0))
        have f0 := S9.out.cell 1 rfl (k := 0) rfl
        have f1 := S9.out.cell 1 rfl (k := 1) rfl
        clear S5
        go_wp2
        refine bodyPost_ret (v := .tuple #[.slice A5 0 c5, .agg #[.int .i64 (2), .int .i64 0]]) (by simp [results, Try.results21, asAddr, Result.andThen, go_sem, f0, f1]) rfl ?_
        exact ⟨A5, c5, hc5, rfl, S9.out.pick [3] (by decide) (by simp)⟩
  by_cases g5 : kind = 3
  · have hk3 : kind = 3 := g5
    by_cases ho : at' < 0 ∨ (S : Int) - many < at'
    · obtain rfl : res = ([], 2, 0) := by rw [HRES.out, stepL, if_neg g12, if_neg g34, if_pos g5, if_pos ho]
      have HO := Lib.hid ho
      have m1 : ¬ many < 1 := by omega
      have m2 : ¬ (S : Int) < many := by omega
      clear g12 g34 ho g5
      subst hk3
      by_cases h1 : at' < 0
      · go_wp2_with fail
        refine (no_any (2) _).mono ?_; rintro en w5 ⟨A5, c5, hc5, rfl, K5⟩
        have S5 := Lib.hid (S1.out.join K5)
        clear K5 S1
        have e0 := S5.out.cell 1 rfl (k := 0) rfl
        have e1 := S5.out.cell 1 rfl (k := 1) rfl
        have u0 := S5.out.froz 1 rfl (k := 0)
        have u1 := S5.out.froz 1 rfl (k := 1)
        have S9 := Lib.hid ((S5.out.set 1 rfl (k := 0) (.int .i64 (2))).set 1 rfl (k := 1) (.int .i64 0))
        have f0 := S9.out.cell 1 rfl (k := 0) rfl
        have f1 := S9.out.cell 1 rfl (k := 1) rfl
        clear S5
        go_wp2
        refine bodyPost_ret (v := .tuple #[.slice A5 0 c5, .agg #[.int .i64 (2), .int .i64 0]]) (by simp [results, Try.results21, asAddr, Result.andThen, go_sem, f0, f1]) rfl ?_
        exact ⟨A5, c5, hc5, rfl, S9.out.pick [3] (by decide) (by simp)⟩
      · have h2 := HO.out.resolve_left h1
        go_wp2_with fail
        refine (no_any (2) _).mono ?_; rintro en w5 ⟨A5, c5, hc5, rfl, K5⟩
        have S5 := Lib.hid (S1.out.join K5)
        clear K5 S1
        have e0 := S5.out.cell 1 rfl (k := 0) rfl
        have e1 := S5.out.cell 1 rfl (k := 1) rfl
        have u0 := S5.out.froz 1 rfl (k := 0)
        have u1 := S5.out.froz 1 rfl (k := 1)
        have S9 := Lib.hid ((S5.out.set 1 rfl (k := 0) (.int .i64 (2))).set 1 rfl (k := 1) (.int .i64 0))
        have f0 := S9.out.cell 1 rfl (k := 0) rfl
        have f1 := S9.out.cell 1 rfl (k := 1) rfl
        clear S5
        go_wp2
        refine bodyPost_ret (v := .tuple #[.slice A5 0 c5, .agg #[.int .i64 (2), .int .i64 0]]) (by simp [results, Try.results21, asAddr, Result.andThen, go_sem, f0, f1]) rfl ?_
        exact ⟨A5, c5, hc5, rfl, S9.out.pick [3] (by decide) (by simp)⟩
    · obtain ⟨a, rfl⟩ := Int.eq_ofNat_of_zero_le (show 0 ≤ at' by omega)
      obtain ⟨m, rfl⟩ := Int.eq_ofNat_of_zero_le (show 0 ≤ many by omega)
      have HR2 : Hid (res = if hitsB ln a m then ([], 6, 0) else (giveL ln a m, 0, (a : Int))) := Lib.hid (by rw [HRES.out, stepL, if_neg g12, if_neg g34, if_pos g5, if_neg ho]; rfl)
      have m0 : 1 ≤ m := by omega
      have m1 : ¬ (m : Int) < 1 := by omega
      have m2 : ¬ (S : Int) < (m : Int) := by omega
      have m3 : ¬ (a : Int) < 0 := by omega
      have m4 : ¬ (S : Int) - (m : Int) < (a : Int) := by omega
      have ham : a + m ≤ S := by omega
      have hk3b : (kind == 3) = true := by simp [hk3]
      have hk3n : (kind != 3) = false := by simp [hk3]
      clear g12 g34 ho g5 HRES
      subst hk3
      have HS := S1
      clear S1
      go_wp2
      clear q0 q1 q2
      go_loopg [15, 123] m (fun g v15 i wr => ∃ (j : Nat), j ≤ m ∧ g = m - j ∧ i = .int .i64 j ∧ Hid (∀ i', i' < j → mem ln (a + i') = false) ∧ Sep w wr [.cells go 39 [.int .i64 3, .int .i64 (a : Int), .int .i64 (m : Int)], .cells ga 41 [.int .i64 0, .int .i64 0], .row 4 1 (.slice A' S c') S ((seg S 0 ln).flatMap bcell)])
      case atStart => exact ⟨0, Nat.zero_le _, rfl, rfl, Lib.hid (fun i' h => by omega), HS.out⟩
      case round =>
        clear HS
        obtain ⟨j, hj, rfl, rfl, HN, hs⟩ := hrel
        have HS := Lib.hid hs
        clear hs
        have q0 := HS.out.cell 0 rfl (k := 0) rfl
        have q2 := HS.out.cell 0 rfl (k := 2) rfl
        by_cases hjm : j < m
        · obtain ⟨p, HPP⟩ : ∃ p, Hid (p = a + j) := ⟨_, Lib.hid rfl⟩
          have kp : (a : Int) + (j : Int) = (p : Int) := by rw [HPP.out]; omega
          have hpS : p < S := by have := HPP.out; omega
          have p0 : (0 : Int) ≤ (p : Int) := by omega
          have p1 : (p : Int) < (S : Int) := by omega
          have hold : (seg S 0 ln)[p]? = some (mem ln p) := by rw [seg_at ln 0 p HOK.out (Nat.zero_le _) (by omega), Nat.zero_add]
          obtain ⟨gr, hgr, _, hat⟩ := HS.out.rowAt 2 rfl (by omega)
          have e0 := (hat p).1 _ (mem_bool hold)
          clear hat hold
          cases hmem : mem ln p with
          | true =>
            have hh : hitsB ln a m = true := (hits_iff HOK.out m0).2 ⟨j, hjm, by rw [← HPP.out]; exact hmem⟩
            obtain rfl : res = ([], 6, 0) := by rw [HR2.out, if_pos hh]
            rw [hmem] at e0
            clear hh hmem
            subst hgr
            go_wp2_with fail
            refine (no_any (6) _).mono ?_; rintro en w5 ⟨A5, c5, hc5, rfl, K5⟩
            have S5 := Lib.hid (HS.out.join K5)
            clear K5 HS
            have e0 := S5.out.cell 1 rfl (k := 0) rfl
            have e1 := S5.out.cell 1 rfl (k := 1) rfl
            have u0 := S5.out.froz 1 rfl (k := 0)
            have u1 := S5.out.froz 1 rfl (k := 1)
            have S9 := Lib.hid ((S5.out.set 1 rfl (k := 0) (.int .i64 (6))).set 1 rfl (k := 1) (.int .i64 0))
            have f0 := S9.out.cell 1 rfl (k := 0) rfl
            have f1 := S9.out.cell 1 rfl (k := 1) rfl
            clear S5
            go_wp2
            refine bodyPost_ret (v := .tuple #[.slice A5 0 c5, .agg #[.int .i64 (6), .int .i64 0]]) (by simp [results, Try.results21, asAddr, Result.andThen, go_sem, f0, f1]) rfl ?_
            exact ⟨A5, c5, hc5, rfl, S9.out.pick [3] (by decide) (by simp)⟩
          | false =>
            have HN2 : Hid (∀ i', i' < j + 1 → mem ln (a + i') = false) := Lib.hid (fun i' hi => by
              rcases Nat.lt_or_ge i' j with h | h
              · exact HN.out i' h
              · obtain rfl : i' = j := by omega
                rw [← HPP.out]
                exact hmem)
            rw [hmem] at e0
            clear hmem HN
            subst hgr
            go_wp2
            go_roundg (m - (j + 1))
            case measure => omega
            case rel => exact ⟨j + 1, by omega, rfl, by go_num, HN2, HS.out⟩
        · obtain rfl : j = m := by omega
          have hh : hitsB ln a j = false := by
            cases h : hitsB ln a j with
            | false => rfl
            | true =>
              obtain ⟨i', h1, h2⟩ := (hits_iff HOK.out m0).1 h
              rw [HN.out i' h1] at h2
              cases h2
          have HRE : Hid (res = (giveL ln a j, 0, (a : Int))) := Lib.hid (by rw [HR2.out, hh]; rfl)
          obtain ⟨hok2, hm2⟩ := give_law HOK.out m0 ham hh
          have HOK2 := Lib.hid hok2
          have HM2 : Hid (∀ k, mem (giveL ln a j) k = (if a ≤ k ∧ k < a + j then true else mem ln k)) := Lib.hid (fun k => by
            rw [hm2]
            unfold inG
            by_cases hin : a ≤ k ∧ k < a + j
            · rw [if_pos hin, decide_eq_true hin.1, decide_eq_true hin.2]; simp
            · rw [if_neg hin]
              have : (decide (a ≤ k) && decide (k < a + j)) = false := by rw [Bool.and_eq_false_iff]; simp; omega
              rw [this, Bool.or_false])
          clear hh hok2 hm2 HR2 HN
          generalize giveL ln a j = l' at HOK2 HM2 HRE
          generalize hmj : j = m at *
          go_wp2
          go_loopg [16, 144] m (fun g v16 i wr => ∃ (j : Nat) (cur : List Bool), j ≤ m ∧ g = m - j ∧ i = .int .i64 j ∧ Hid (cur.length = S) ∧ Hid (∀ k, k < S → cur[k]? = some (if a ≤ k ∧ k < a + j then true else mem ln k)) ∧ Sep w wr [.cells go 39 [.int .i64 3, .int .i64 (a : Int), .int .i64 (m : Int)], .cells ga 41 [.int .i64 0, .int .i64 0], .row 4 1 (.slice A' S c') S (cur.flatMap bcell)])
          case atStart => exact ⟨0, seg S 0 ln, Nat.zero_le _, rfl, rfl, Lib.hid (by rw [seg_len ln 0 HOK.out (Nat.zero_le _)]; omega), Lib.hid (fun k hk => by rw [seg_at ln 0 k HOK.out (Nat.zero_le _) (by omega), Nat.zero_add, if_neg (by omega)]), HS.out⟩
          case round =>
            clear HS
            obtain ⟨j, cur, hj, rfl, rfl, HCL, HC, hs⟩ := hrel
            have HS := Lib.hid hs
            clear hs
            have f0 := HS.out.cell 0 rfl (k := 0) rfl
            have f1 := HS.out.cell 0 rfl (k := 1) rfl
            have f2 := HS.out.cell 0 rfl (k := 2) rfl
            by_cases hjm : j < m
            · obtain ⟨p, HPP⟩ : ∃ p, Hid (p = a + j) := ⟨_, Lib.hid rfl⟩
              have kp : (a : Int) + (j : Int) = (p : Int) := by rw [HPP.out]; omega
              have hpS : p < S := by have := HPP.out; omega
              have p0 : (0 : Int) ≤ (p : Int) := by omega
              have p1 : (p : Int) < (S : Int) := by omega
              obtain ⟨old, hold⟩ : ∃ old, cur[p]? = some old := ⟨_, List.getElem?_eq_getElem (by rw [HCL.out]; exact hpS)⟩
              obtain ⟨gr, rfl, _, hat⟩ := HS.out.rowAt 2 rfl (by omega)
              have e0 := (hat p).1 _ (mem_bool hold)
              have u0 := (hat p).2.1
              have K : Hid (Sep w (wr.setCell ⟨gr, p, none⟩ (.bool true)) [.cells go 39 [.int .i64 3, .int .i64 (a : Int), .int .i64 (m : Int)], .cells ga 41 [.int .i64 0, .int .i64 0], .row 4 1 (.slice (some ⟨gr, 0, none⟩) S c') S ((cur.set p true).flatMap bcell)]) := Lib.hid (by
                have := HS.out.field bcell_len 2 rfl (by omega) (k := p) (j := 0) (x := old) hold (by omega) true (.bool true) rfl
                rw [Nat.mul_one, Nat.add_zero] at this
                exact this)
              have HC2 : Hid (∀ k, k < S → (cur.set p true)[k]? = some (if a ≤ k ∧ k < a + (j + 1) then true else mem ln k)) := Lib.hid (fun k hk => by
                rw [List.getElem?_set]
                have hp := HPP.out
                by_cases hip : p = k
                · rw [if_pos hip, if_pos (by rw [HCL.out]; exact hpS), if_pos (by omega)]
                · rw [if_neg hip, HC.out k hk]
                  congr 1
                  by_cases hin : a ≤ k ∧ k < a + j
                  · rw [if_pos hin, if_pos (by omega)]
                  · rw [if_neg hin, if_neg (by omega)])
              have HCL2 : Hid ((cur.set p true).length = S) := Lib.hid (by rw [List.length_set]; exact HCL.out)
              clear hat hold HS HC
              go_wp2
              go_roundg (m - (j + 1))
              case measure => omega
              case rel => exact ⟨j + 1, cur.set p true, by omega, rfl, by go_num, HCL2, HC2, K.out⟩
            · obtain rfl : j = m := by omega
              have HRW := Lib.hid (row_is HOK2.out HCL.out HM2.out HC.out)
              have cG := Lib.hid (ngaps_any A' S c' cur wr (HS.out.rd 2 rfl) HCL.out hS)
              have hpart : part cur S = l' := by rw [HRW.out]; exact part_seg HOK2.out
              rw [hpart] at cG
              clear hpart HC HRW
              go_wp2_with fail
              refine cG.out.mono ?_; rintro en w5 ⟨A5, c5, hc5, rfl, K5⟩
              have S5 := Lib.hid (HS.out.join K5)
              clear K5 HS cG f0 f1 f2
              have e0 := S5.out.cell 1 rfl (k := 0) rfl
              have e1 := S5.out.cell 1 rfl (k := 1) rfl
              have u0 := S5.out.froz 1 rfl (k := 0)
              have u1 := S5.out.froz 1 rfl (k := 1)
              have S9 := Lib.hid ((S5.out.set 1 rfl (k := 0) (.int .i64 0)).set 1 rfl (k := 1) (.int .i64 (a : Int)))
              have f0 := S9.out.cell 1 rfl (k := 0) rfl
              have f1 := S9.out.cell 1 rfl (k := 1) rfl
              clear S5
              go_wp2
              refine bodyPost_ret (v := .tuple #[.slice A5 l'.length c5, .agg #[.int .i64 0, .int .i64 (a : Int)]]) (by simp [results, Try.results21, asAddr, Result.andThen, go_sem, f0, f1]) rfl ?_
              rw [HRE.out]
              exact ⟨A5, c5, hc5, rfl, S9.out.pick [3] (by decide) (by simp)⟩
  have hk12 : kind = 1 ∨ kind = 2 := by omega
  clear g12 g5
  rcases hk12 with rfl | rfl
  · obtain ⟨m, rfl⟩ := Int.eq_ofNat_of_zero_le (show 0 ≤ many by omega)
    have HR2 : Hid (res = match chAll m (1 == 2) ln ln.length with | none => ([], 4, 0) | some p => (takeL ln p.1 m, 0, (p.2.a : Int))) := Lib.hid (by rw [HRES.out, stepL, if_neg (by omega), if_neg g34, if_neg (by decide)]; rfl)
    have m0 : 1 ≤ m := by omega
    have m1 : ¬ (m : Int) < 1 := by omega
    have m2 : ¬ (S : Int) < (m : Int) := by omega
    clear g34 HRES
    have cG := Lib.hid (ngaps_any A' S c' (seg S 0 ln) w1 (S1.out.rd 2 rfl) (by rw [seg_len ln 0 HOK.out (Nat.zero_le _)]; omega) hS)
    rw [part_seg HOK.out] at cG
    go_wp2_with fail
    refine cG.out.mono ?_; rintro en w2 ⟨A3, c3, hc3, rfl, K3⟩
    have S2 := Lib.hid (S1.out.join K3)
    clear K3 S1 cG q0 q1 q2
    obtain ⟨nl, hnl⟩ : ∃ nl, nl = ln.length := ⟨_, rfl⟩
    rw [← hnl] at S2 HNL hc3 HR2 ⊢
    have hnl6 : nl ≤ 4096 := HNL.out
    have HNN := Lib.hid hnl
    clear hnl
    go_wp2
    go_loopg [11, 12, 86] nl (fun q v11 v12 i wr => ∃ (k : Nat), k ≤ nl ∧ q = nl - k ∧ i = .int .i64 k ∧ v11 = .int .i64 (atI (chAll m (1 == 2) ln k)).1 ∧ v12 = .int .i64 (atI (chAll m (1 == 2) ln k)).2 ∧ Sep w wr [.cells go 39 [.int .i64 1, .int .i64 at', .int .i64 (m : Int)], .cells ga 41 [.int .i64 0, .int .i64 0], .row 4 1 (.slice A' S c') S ((seg S 0 ln).flatMap bcell), .row 50 2 (.slice A3 nl c3) nl (ln.flatMap ncells)])
    case atStart => exact ⟨0, Nat.zero_le _, rfl, rfl, rfl, rfl, S2.out⟩
    case round =>
      clear S2
      obtain ⟨k, hk, rfl, rfl, rfl, rfl, hs⟩ := hrel
      have HS := Lib.hid hs
      clear hs
      by_cases hlt : k < nl
      · obtain ⟨g3, rfl, _, hat⟩ := HS.out.rowAt 3 rfl (by omega)
        obtain ⟨x, hx⟩ : ∃ x, ln[k]? = some x := ⟨_, List.getElem?_eq_getElem (by rw [← HNN.out]; exact hlt)⟩
        have d0 := (hat _).1 _ (cell_gap hx).1
        have d1 := (hat _).1 _ (cell_gap hx).2
        have i0 : (0 : Int) ≤ (k : Int) := by omega
        have i1 : (k : Int) < (nl : Int) := by omega
        have HB1 : Hid (chAll m (1 == 2) ln (k + 1) = chStep m (1 == 2) (chAll m (1 == 2) ln k) k x) := Lib.hid (by rw [chAll, hx])
        have HS1 : Hid (Sep w (wr.alloc (.cells #[.int .i64 (x.a : Int), .int .i64 (x.m : Int)] 50)) [.cells go 39 [.int .i64 1, .int .i64 at', .int .i64 (m : Int)], .cells ga 41 [.int .i64 0, .int .i64 0], .row 4 1 (.slice A' S c') S ((seg S 0 ln).flatMap bcell), .row 50 2 (.slice (some ⟨g3, 0, none⟩) nl c3) nl (ln.flatMap ncells), .cells wr.heap.size 50 (ncells x)]) := Lib.hid (HS.out.new 50 (ncells x))
        clear hat hx
        go_upto_region 16 with (fail)
        generalize wr.alloc (.cells #[.int .i64 (x.a : Int), .int .i64 (x.m : Int)] 50) = wo at HS1 ⊢
        generalize wr.heap.size = gx at HS1 ⊢
        clear HS d0 d1
        have q0 := HS1.out.cell 0 rfl (k := 0) rfl
        have q2 := HS1.out.cell 0 rfl (k := 2) rfl
        have p0 : wo.cell? ⟨gx, 0, none⟩ = some (.int .i64 (x.a : Int)) := HS1.out.cell 4 rfl (k := 0) rfl
        have p1 : wo.cell? ⟨gx, 1, none⟩ = some (.int .i64 (x.m : Int)) := HS1.out.cell 4 rfl (k := 1) rfl
        have r0 := fun z : LaterOf wo => z.cell p0
        have r1 := fun z : LaterOf wo => z.cell p1
        by_cases hm : m ≤ x.m
        · cases hbst : chAll m (1 == 2) ln k with
          | none =>
            have HB2 : Hid (chAll m (1 == 2) ln (k + 1) = some (k, x)) := Lib.hid (by rw [HB1.out, hbst, chStep, if_pos hm])
            clear hbst HB1
            simp only [atI]
            go_wp2
            refine wp_region_later (by kernel_rfl) (by kernel_rfl) ?_
            repeat (go_big_quiet_step (fail))
            refine wpQuiet_nil ?_; intro x1 hw'; obtain ⟨xq, hw''⟩ := hw'; obtain ⟨xw0, h1⟩ := xq; change x1 = xw0 at hw''; subst hw''
            have HS2 := Lib.hid ((HS1.out.later h1).pick [0, 1, 2, 3] (by decide) (by simp))
            clear HS1
            go_wp2
            go_roundg (nl - (k + 1))
            case measure => omega
            case rel => exact ⟨k + 1, by omega, rfl, by go_num, by rw [HB2.out]; rfl, by rw [HB2.out]; rfl, HS2.out⟩
          | some p =>
            obtain ⟨i, h⟩ := p
            have j3 : ¬ (h.a : Int) < 0 := by omega
            have HB2 : Hid (chAll m (1 == 2) ln (k + 1) = some (i, h)) := Lib.hid (by rw [HB1.out, hbst, chStep, if_pos hm]; rfl)
            clear hbst HB1
            simp only [atI]
            go_wp2
            have HS2 := Lib.hid (HS1.out.pick [0, 1, 2, 3] (by decide) (by simp))
            clear HS1
            go_roundg (nl - (k + 1))
            case measure => omega
            case rel => exact ⟨k + 1, by omega, rfl, by go_num, by first | (rw [HB2.out]; done) | (rw [HB2.out]; rfl), by first | (rw [HB2.out]; done) | (rw [HB2.out]; rfl), HS2.out⟩
        · have HB2 : Hid (chAll m (1 == 2) ln (k + 1) = chAll m (1 == 2) ln k) := Lib.hid (by rw [HB1.out]; unfold chStep; rw [if_neg hm])
          clear HB1
          generalize hbb : chAll m (1 == 2) ln k = bb at HB2 ⊢
          clear hbb
          go_wp2
          have HS2 := Lib.hid (HS1.out.pick [0, 1, 2, 3] (by decide) (by simp))
          clear HS1
          go_roundg (nl - (k + 1))
          case measure => omega
          case rel => exact ⟨k + 1, by omega, rfl, by go_num, by first | (rw [HB2.out]; done) | (rw [HB2.out]; rfl), by first | (rw [HB2.out]; done) | (rw [HB2.out]; rfl), HS2.out⟩
      · obtain rfl : k = nl := by omega
        have HCH : Hid (res = match chAll m (1 == 2) ln k with | none => ([], 4, 0) | some p => (takeL ln p.1 m, 0, (p.2.a : Int))) := HR2
        clear HR2
        have HS0 : Hid (Sep w wr [.cells go 39 [.int .i64 1, .int .i64 at', .int .i64 (m : Int)], .cells ga 41 [.int .i64 0, .int .i64 0], .row 4 1 (.slice A' S c') S ((seg S 0 ln).flatMap bcell)]) := Lib.hid (HS.out.pick [0, 1, 2] (by decide) (by simp))
        clear HS
        have HS := HS0
        clear HS0
        have q0 := HS.out.cell 0 rfl (k := 0) rfl
        have q2 := HS.out.cell 0 rfl (k := 2) rfl
        cases hbst : chAll m (1 == 2) ln k with
        | none =>
          rw [hbst] at HCH
          obtain rfl : res = ([], 4, 0) := HCH.out
          clear HCH hbst
          simp only [atI]
          go_wp2_with fail
          refine (no_any (4) _).mono ?_; rintro en w5 ⟨A5, c5, hc5, rfl, K5⟩
          have S5 := Lib.hid (HS.out.join K5)
          clear K5 HS
          have e0 := S5.out.cell 1 rfl (k := 0) rfl
          have e1 := S5.out.cell 1 rfl (k := 1) rfl
          have u0 := S5.out.froz 1 rfl (k := 0)
          have u1 := S5.out.froz 1 rfl (k := 1)
          have S9 := Lib.hid ((S5.out.set 1 rfl (k := 0) (.int .i64 (4))).set 1 rfl (k := 1) (.int .i64 0))
          have f0 := S9.out.cell 1 rfl (k := 0) rfl
          have f1 := S9.out.cell 1 rfl (k := 1) rfl
          clear S5
          go_wp2
          refine bodyPost_ret (v := .tuple #[.slice A5 0 c5, .agg #[.int .i64 (4), .int .i64 0]]) (by simp [results, Try.results21, asAddr, Result.andThen, go_sem, f0, f1]) rfl ?_
          exact ⟨A5, c5, hc5, rfl, S9.out.pick [3] (by decide) (by simp)⟩
        | some p =>
          obtain ⟨i, x⟩ := p
          rw [hbst] at HCH
          have HRE : Hid (res = (takeL ln i m, 0, (x.a : Int))) := Lib.hid HCH.out
          obtain ⟨hi1, hi2, hi3⟩ := chAll_at hbst
          have hx2 := (ok_mem HOK.out x (List.mem_of_getElem? hi2)).2
          obtain ⟨hok2, hm2⟩ := take_ok m0 hi3 ln i 0 HOK.out hi2
          have HOK2 := Lib.hid hok2
          obtain ⟨a, ha⟩ : ∃ a, a = x.a := ⟨_, rfl⟩
          have HM2 : Hid (∀ k, mem (takeL ln i m) k = (if a ≤ k ∧ k < a + m then false else mem ln k)) := Lib.hid (fun k => by
            rw [hm2, ha]
            unfold inG
            by_cases hin : x.a ≤ k ∧ k < x.a + m
            · rw [if_pos hin, decide_eq_true hin.1, decide_eq_true hin.2]; simp
            · rw [if_neg hin]
              have : (decide (x.a ≤ k) && decide (k < x.a + m)) = false := by rw [Bool.and_eq_false_iff]; simp; omega
              rw [this]; simp)
          have ham : a + m ≤ S := by omega
          have j3 : ¬ (a : Int) < 0 := by omega
          simp only [atI]
          rw [← ha] at HRE ⊢
          clear hbst hi1 hi2 hi3 hok2 hm2 HCH hx2 ha
          generalize takeL ln i m = l' at HOK2 HM2 HRE
          clear i
          go_wp2
          clear q0 q2
          go_loopg [15, 123] m (fun g v15 i wr => ∃ (j : Nat), j ≤ m ∧ g = m - j ∧ i = .int .i64 j ∧ Sep w wr [.cells go 39 [.int .i64 1, .int .i64 at', .int .i64 (m : Int)], .cells ga 41 [.int .i64 0, .int .i64 0], .row 4 1 (.slice A' S c') S ((seg S 0 ln).flatMap bcell)])
          case atStart => exact ⟨0, Nat.zero_le _, rfl, rfl, HS.out⟩
          case round =>
            clear HS
            obtain ⟨j, hj, rfl, rfl, hs⟩ := hrel
            have HS := Lib.hid hs
            clear hs
            have q0 := HS.out.cell 0 rfl (k := 0) rfl
            have q2 := HS.out.cell 0 rfl (k := 2) rfl
            by_cases hjm : j < m
            · go_wp2
              go_roundg (m - (j + 1))
              case measure => omega
              case rel => exact ⟨j + 1, by omega, rfl, by go_num, HS.out⟩
            · obtain rfl : j = m := by omega
              generalize hmj : j = m at *
              go_wp2
              go_loopg [16, 144] m (fun g v16 i wr => ∃ (j : Nat) (cur : List Bool), j ≤ m ∧ g = m - j ∧ i = .int .i64 j ∧ Hid (cur.length = S) ∧ Hid (∀ k, k < S → cur[k]? = some (if a ≤ k ∧ k < a + j then false else mem ln k)) ∧ Sep w wr [.cells go 39 [.int .i64 1, .int .i64 at', .int .i64 (m : Int)], .cells ga 41 [.int .i64 0, .int .i64 0], .row 4 1 (.slice A' S c') S (cur.flatMap bcell)])
              case atStart => exact ⟨0, seg S 0 ln, Nat.zero_le _, rfl, rfl, Lib.hid (by rw [seg_len ln 0 HOK.out (Nat.zero_le _)]; omega), Lib.hid (fun k hk => by rw [seg_at ln 0 k HOK.out (Nat.zero_le _) (by omega), Nat.zero_add, if_neg (by omega)]), HS.out⟩
              case round =>
                clear HS
                obtain ⟨j, cur, hj, rfl, rfl, HCL, HC, hs⟩ := hrel
                have HS := Lib.hid hs
                clear hs
                have f0 := HS.out.cell 0 rfl (k := 0) rfl
                have f1 := HS.out.cell 0 rfl (k := 1) rfl
                have f2 := HS.out.cell 0 rfl (k := 2) rfl
                by_cases hjm : j < m
                · obtain ⟨p, HPP⟩ : ∃ p, Hid (p = a + j) := ⟨_, Lib.hid rfl⟩
                  have kp : (a : Int) + (j : Int) = (p : Int) := by rw [HPP.out]; omega
                  have hpS : p < S := by have := HPP.out; omega
                  have p0 : (0 : Int) ≤ (p : Int) := by omega
                  have p1 : (p : Int) < (S : Int) := by omega
                  obtain ⟨old, hold⟩ : ∃ old, cur[p]? = some old := ⟨_, List.getElem?_eq_getElem (by rw [HCL.out]; exact hpS)⟩
                  obtain ⟨gr, rfl, _, hat⟩ := HS.out.rowAt 2 rfl (by omega)
                  have e0 := (hat p).1 _ (mem_bool hold)
                  have u0 := (hat p).2.1
                  have K : Hid (Sep w (wr.setCell ⟨gr, p, none⟩ (.bool false)) [.cells go 39 [.int .i64 1, .int .i64 at', .int .i64 (m : Int)], .cells ga 41 [.int .i64 0, .int .i64 0], .row 4 1 (.slice (some ⟨gr, 0, none⟩) S c') S ((cur.set p false).flatMap bcell)]) := Lib.hid (by
                    have := HS.out.field bcell_len 2 rfl (by omega) (k := p) (j := 0) (x := old) hold (by omega) false (.bool false) rfl
                    rw [Nat.mul_one, Nat.add_zero] at this
                    exact this)
                  have HC2 : Hid (∀ k, k < S → (cur.set p false)[k]? = some (if a ≤ k ∧ k < a + (j + 1) then false else mem ln k)) := Lib.hid (fun k hk => by
                    rw [List.getElem?_set]
                    have hp := HPP.out
                    by_cases hip : p = k
                    · rw [if_pos hip, if_pos (by rw [HCL.out]; exact hpS), if_pos (by omega)]
                    · rw [if_neg hip, HC.out k hk]
                      congr 1
                      by_cases hin : a ≤ k ∧ k < a + j
                      · rw [if_pos hin, if_pos (by omega)]
                      · rw [if_neg hin, if_neg (by omega)])
                  have HCL2 : Hid ((cur.set p false).length = S) := Lib.hid (by rw [List.length_set]; exact HCL.out)
                  clear hat hold HS HC
                  go_wp2
                  go_roundg (m - (j + 1))
                  case measure => omega
                  case rel => exact ⟨j + 1, cur.set p false, by omega, rfl, by go_num, HCL2, HC2, K.out⟩
                · obtain rfl : j = m := by omega
                  have HRW := Lib.hid (row_is HOK2.out HCL.out HM2.out HC.out)
                  have cG := Lib.hid (ngaps_any A' S c' cur wr (HS.out.rd 2 rfl) HCL.out hS)
                  have hpart : part cur S = l' := by rw [HRW.out]; exact part_seg HOK2.out
                  rw [hpart] at cG
                  clear hpart HC HRW
                  go_wp2_with fail
                  refine cG.out.mono ?_; rintro en w5 ⟨A5, c5, hc5, rfl, K5⟩
                  have S5 := Lib.hid (HS.out.join K5)
                  clear K5 HS cG f0 f1 f2
                  have e0 := S5.out.cell 1 rfl (k := 0) rfl
                  have e1 := S5.out.cell 1 rfl (k := 1) rfl
                  have u0 := S5.out.froz 1 rfl (k := 0)
                  have u1 := S5.out.froz 1 rfl (k := 1)
                  have S9 := Lib.hid ((S5.out.set 1 rfl (k := 0) (.int .i64 0)).set 1 rfl (k := 1) (.int .i64 (a : Int)))
                  have f0 := S9.out.cell 1 rfl (k := 0) rfl
                  have f1 := S9.out.cell 1 rfl (k := 1) rfl
                  clear S5
                  go_wp2
                  refine bodyPost_ret (v := .tuple #[.slice A5 l'.length c5, .agg #[.int .i64 0, .int .i64 (a : Int)]]) (by simp [results, Try.results21, asAddr, Result.andThen, go_sem, f0, f1]) rfl ?_
                  rw [HRE.out]
                  exact ⟨A5, c5, hc5, rfl, S9.out.pick [3] (by decide) (by simp)⟩
  · obtain ⟨m, rfl⟩ := Int.eq_ofNat_of_zero_le (show 0 ≤ many by omega)
    have HR2 : Hid (res = match chAll m (2 == 2) ln ln.length with | none => ([], 4, 0) | some p => (takeL ln p.1 m, 0, (p.2.a : Int))) := Lib.hid (by rw [HRES.out, stepL, if_neg (by omega), if_neg g34, if_neg (by decide)]; rfl)
    have m0 : 1 ≤ m := by omega
    have m1 : ¬ (m : Int) < 1 := by omega
    have m2 : ¬ (S : Int) < (m : Int) := by omega
    clear g34 HRES
    have cG := Lib.hid (ngaps_any A' S c' (seg S 0 ln) w1 (S1.out.rd 2 rfl) (by rw [seg_len ln 0 HOK.out (Nat.zero_le _)]; omega) hS)
    rw [part_seg HOK.out] at cG
    go_wp2_with fail
    refine cG.out.mono ?_; rintro en w2 ⟨A3, c3, hc3, rfl, K3⟩
    have S2 := Lib.hid (S1.out.join K3)
    clear K3 S1 cG q0 q1 q2
    obtain ⟨nl, hnl⟩ : ∃ nl, nl = ln.length := ⟨_, rfl⟩
    rw [← hnl] at S2 HNL hc3 HR2 ⊢
    have hnl6 : nl ≤ 4096 := HNL.out
    have HNN := Lib.hid hnl
    clear hnl
    go_wp2
    go_loopg [11, 12, 86] nl (fun q v11 v12 i wr => ∃ (k : Nat), k ≤ nl ∧ q = nl - k ∧ i = .int .i64 k ∧ v11 = .int .i64 (atI (chAll m (2 == 2) ln k)).1 ∧ v12 = .int .i64 (atI (chAll m (2 == 2) ln k)).2 ∧ Sep w wr [.cells go 39 [.int .i64 2, .int .i64 at', .int .i64 (m : Int)], .cells ga 41 [.int .i64 0, .int .i64 0], .row 4 1 (.slice A' S c') S ((seg S 0 ln).flatMap bcell), .row 50 2 (.slice A3 nl c3) nl (ln.flatMap ncells)])
    case atStart => exact ⟨0, Nat.zero_le _, rfl, rfl, rfl, rfl, S2.out⟩
    case round =>
      clear S2
      obtain ⟨k, hk, rfl, rfl, rfl, rfl, hs⟩ := hrel
      have HS := Lib.hid hs
      clear hs
      by_cases hlt : k < nl
      · obtain ⟨g3, rfl, _, hat⟩ := HS.out.rowAt 3 rfl (by omega)
        obtain ⟨x, hx⟩ : ∃ x, ln[k]? = some x := ⟨_, List.getElem?_eq_getElem (by rw [← HNN.out]; exact hlt)⟩
        have d0 := (hat _).1 _ (cell_gap hx).1
        have d1 := (hat _).1 _ (cell_gap hx).2
        have i0 : (0 : Int) ≤ (k : Int) := by omega
        have i1 : (k : Int) < (nl : Int) := by omega
        have HB1 : Hid (chAll m (2 == 2) ln (k + 1) = chStep m (2 == 2) (chAll m (2 == 2) ln k) k x) := Lib.hid (by rw [chAll, hx])
        have HS1 : Hid (Sep w (wr.alloc (.cells #[.int .i64 (x.a : Int), .int .i64 (x.m : Int)] 50)) [.cells go 39 [.int .i64 2, .int .i64 at', .int .i64 (m : Int)], .cells ga 41 [.int .i64 0, .int .i64 0], .row 4 1 (.slice A' S c') S ((seg S 0 ln).flatMap bcell), .row 50 2 (.slice (some ⟨g3, 0, none⟩) nl c3) nl (ln.flatMap ncells), .cells wr.heap.size 50 (ncells x)]) := Lib.hid (HS.out.new 50 (ncells x))
        clear hat hx
        go_upto_region 16 with (fail)
        generalize wr.alloc (.cells #[.int .i64 (x.a : Int), .int .i64 (x.m : Int)] 50) = wo at HS1 ⊢
        generalize wr.heap.size = gx at HS1 ⊢
        clear HS d0 d1
        have q0 := HS1.out.cell 0 rfl (k := 0) rfl
        have q2 := HS1.out.cell 0 rfl (k := 2) rfl
        have p0 : wo.cell? ⟨gx, 0, none⟩ = some (.int .i64 (x.a : Int)) := HS1.out.cell 4 rfl (k := 0) rfl
        have p1 : wo.cell? ⟨gx, 1, none⟩ = some (.int .i64 (x.m : Int)) := HS1.out.cell 4 rfl (k := 1) rfl
        have r0 := fun z : LaterOf wo => z.cell p0
        have r1 := fun z : LaterOf wo => z.cell p1
        by_cases hm : m ≤ x.m
        · cases hbst : chAll m (2 == 2) ln k with
          | none =>
            have HB2 : Hid (chAll m (2 == 2) ln (k + 1) = some (k, x)) := Lib.hid (by rw [HB1.out, hbst, chStep, if_pos hm])
            clear hbst HB1
            simp only [atI]
            go_wp2
            refine wp_region_later (by kernel_rfl) (by kernel_rfl) ?_
            repeat (go_big_quiet_step (fail))
            refine wpQuiet_nil ?_; intro x1 hw'; obtain ⟨xq, hw''⟩ := hw'; obtain ⟨xw0, h1⟩ := xq; change x1 = xw0 at hw''; subst hw''
            have HS2 := Lib.hid ((HS1.out.later h1).pick [0, 1, 2, 3] (by decide) (by simp))
            clear HS1
            go_wp2
            go_roundg (nl - (k + 1))
            case measure => omega
            case rel => exact ⟨k + 1, by omega, rfl, by go_num, by rw [HB2.out]; rfl, by rw [HB2.out]; rfl, HS2.out⟩
          | some p =>
            obtain ⟨i, h⟩ := p
            have j3 : ¬ (h.a : Int) < 0 := by omega
            by_cases hlt2 : x.m < h.m
            · have HB2 : Hid (chAll m (2 == 2) ln (k + 1) = some (k, x)) := Lib.hid (by rw [HB1.out, hbst, chStep, if_pos hm]; simp [hlt2])
              clear hbst HB1
              simp only [atI]
              go_wp2
              refine wp_region_later (by kernel_rfl) (by kernel_rfl) ?_
              repeat (go_big_quiet_step (fail))
              refine wpQuiet_nil ?_; intro x1 hw'; obtain ⟨xq, hw''⟩ := hw'; obtain ⟨xw0, h1⟩ := xq; change x1 = xw0 at hw''; subst hw''
              have HS2 := Lib.hid ((HS1.out.later h1).pick [0, 1, 2, 3] (by decide) (by simp))
              clear HS1
              go_wp2
              go_roundg (nl - (k + 1))
              case measure => omega
              case rel => exact ⟨k + 1, by omega, rfl, by go_num, by rw [HB2.out]; rfl, by rw [HB2.out]; rfl, HS2.out⟩
            · have HB2 : Hid (chAll m (2 == 2) ln (k + 1) = some (i, h)) := Lib.hid (by rw [HB1.out, hbst, chStep, if_pos hm]; simp [hlt2])
              clear hbst HB1
              simp only [atI]
              go_wp2
              have HS2 := Lib.hid (HS1.out.pick [0, 1, 2, 3] (by decide) (by simp))
              clear HS1
              go_roundg (nl - (k + 1))
              case measure => omega
              case rel => exact ⟨k + 1, by omega, rfl, by go_num, by first | (rw [HB2.out]; done) | (rw [HB2.out]; rfl), by first | (rw [HB2.out]; done) | (rw [HB2.out]; rfl), HS2.out⟩
        · have HB2 : Hid (chAll m (2 == 2) ln (k + 1) = chAll m (2 == 2) ln k) := Lib.hid (by rw [HB1.out]; unfold chStep; rw [if_neg hm])
          clear HB1
          generalize hbb : chAll m (2 == 2) ln k = bb at HB2 ⊢
          clear hbb
          go_wp2
          have HS2 := Lib.hid (HS1.out.pick [0, 1, 2, 3] (by decide) (by simp))
          clear HS1
          go_roundg (nl - (k + 1))
          case measure => omega
          case rel => exact ⟨k + 1, by omega, rfl, by go_num, by first | (rw [HB2.out]; done) | (rw [HB2.out]; rfl), by first | (rw [HB2.out]; done) | (rw [HB2.out]; rfl), HS2.out⟩
      · obtain rfl : k = nl := by omega
        have HCH : Hid (res = match chAll m (2 == 2) ln k with | none => ([], 4, 0) | some p => (takeL ln p.1 m, 0, (p.2.a : Int))) := HR2
        clear HR2
        have HS0 : Hid (Sep w wr [.cells go 39 [.int .i64 2, .int .i64 at', .int .i64 (m : Int)], .cells ga 41 [.int .i64 0, .int .i64 0], .row 4 1 (.slice A' S c') S ((seg S 0 ln).flatMap bcell)]) := Lib.hid (HS.out.pick [0, 1, 2] (by decide) (by simp))
        clear HS
        have HS := HS0
        clear HS0
        have q0 := HS.out.cell 0 rfl (k := 0) rfl
        have q2 := HS.out.cell 0 rfl (k := 2) rfl
        cases hbst : chAll m (2 == 2) ln k with
        | none =>
          rw [hbst] at HCH
          obtain rfl : res = ([], 4, 0) := HCH.out
          clear HCH hbst
          simp only [atI]
          go_wp2_with fail
          refine (no_any (4) _).mono ?_; rintro en w5 ⟨A5, c5, hc5, rfl, K5⟩
          have S5 := Lib.hid (HS.out.join K5)
          clear K5 HS
          have e0 := S5.out.cell 1 rfl (k := 0) rfl
          have e1 := S5.out.cell 1 rfl (k := 1) rfl
          have u0 := S5.out.froz 1 rfl (k := 0)
          have u1 := S5.out.froz 1 rfl (k := 1)
          have S9 := Lib.hid ((S5.out.set 1 rfl (k := 0) (.int .i64 (4))).set 1 rfl (k := 1) (.int .i64 0))
          have f0 := S9.out.cell 1 rfl (k := 0) rfl
          have f1 := S9.out.cell 1 rfl (k := 1) rfl
          clear S5
          go_wp2
          refine bodyPost_ret (v := .tuple #[.slice A5 0 c5, .agg #[.int .i64 (4), .int .i64 0]]) (by simp [results, Try.results21, asAddr, Result.andThen, go_sem, f0, f1]) rfl ?_
          exact ⟨A5, c5, hc5, rfl, S9.out.pick [3] (by decide) (by simp)⟩
        | some p =>
          obtain ⟨i, x⟩ := p
          rw [hbst] at HCH
          have HRE : Hid (res = (takeL ln i m, 0, (x.a : Int))) := Lib.hid HCH.out
          obtain ⟨hi1, hi2, hi3⟩ := chAll_at hbst
          have hx2 := (ok_mem HOK.out x (List.mem_of_getElem? hi2)).2
          obtain ⟨hok2, hm2⟩ := take_ok m0 hi3 ln i 0 HOK.out hi2
          have HOK2 := Lib.hid hok2
          obtain ⟨a, ha⟩ : ∃ a, a = x.a := ⟨_, rfl⟩
          have HM2 : Hid (∀ k, mem (takeL ln i m) k = (if a ≤ k ∧ k < a + m then false else mem ln k)) := Lib.hid (fun k => by
            rw [hm2, ha]
            unfold inG
            by_cases hin : x.a ≤ k ∧ k < x.a + m
            · rw [if_pos hin, decide_eq_true hin.1, decide_eq_true hin.2]; simp
            · rw [if_neg hin]
              have : (decide (x.a ≤ k) && decide (k < x.a + m)) = false := by rw [Bool.and_eq_false_iff]; simp; omega
              rw [this]; simp)
          have ham : a + m ≤ S := by omega
          have j3 : ¬ (a : Int) < 0 := by omega
          simp only [atI]
          rw [← ha] at HRE ⊢
          clear hbst hi1 hi2 hi3 hok2 hm2 HCH hx2 ha
          generalize takeL ln i m = l' at HOK2 HM2 HRE
          clear i
          go_wp2
          clear q0 q2
          go_loopg [15, 123] m (fun g v15 i wr => ∃ (j : Nat), j ≤ m ∧ g = m - j ∧ i = .int .i64 j ∧ Sep w wr [.cells go 39 [.int .i64 2, .int .i64 at', .int .i64 (m : Int)], .cells ga 41 [.int .i64 0, .int .i64 0], .row 4 1 (.slice A' S c') S ((seg S 0 ln).flatMap bcell)])
          case atStart => exact ⟨0, Nat.zero_le _, rfl, rfl, HS.out⟩
          case round =>
            clear HS
            obtain ⟨j, hj, rfl, rfl, hs⟩ := hrel
            have HS := Lib.hid hs
            clear hs
            have q0 := HS.out.cell 0 rfl (k := 0) rfl
            have q2 := HS.out.cell 0 rfl (k := 2) rfl
            by_cases hjm : j < m
            · go_wp2
              go_roundg (m - (j + 1))
              case measure => omega
              case rel => exact ⟨j + 1, by omega, rfl, by go_num, HS.out⟩
            · obtain rfl : j = m := by omega
              generalize hmj : j = m at *
              go_wp2
              go_loopg [16, 144] m (fun g v16 i wr => ∃ (j : Nat) (cur : List Bool), j ≤ m ∧ g = m - j ∧ i = .int .i64 j ∧ Hid (cur.length = S) ∧ Hid (∀ k, k < S → cur[k]? = some (if a ≤ k ∧ k < a + j then false else mem ln k)) ∧ Sep w wr [.cells go 39 [.int .i64 2, .int .i64 at', .int .i64 (m : Int)], .cells ga 41 [.int .i64 0, .int .i64 0], .row 4 1 (.slice A' S c') S (cur.flatMap bcell)])
              case atStart => exact ⟨0, seg S 0 ln, Nat.zero_le _, rfl, rfl, Lib.hid (by rw [seg_len ln 0 HOK.out (Nat.zero_le _)]; omega), Lib.hid (fun k hk => by rw [seg_at ln 0 k HOK.out (Nat.zero_le _) (by omega), Nat.zero_add, if_neg (by omega)]), HS.out⟩
              case round =>
                clear HS
                obtain ⟨j, cur, hj, rfl, rfl, HCL, HC, hs⟩ := hrel
                have HS := Lib.hid hs
                clear hs
                have f0 := HS.out.cell 0 rfl (k := 0) rfl
                have f1 := HS.out.cell 0 rfl (k := 1) rfl
                have f2 := HS.out.cell 0 rfl (k := 2) rfl
                by_cases hjm : j < m
                · obtain ⟨p, HPP⟩ : ∃ p, Hid (p = a + j) := ⟨_, Lib.hid rfl⟩
                  have kp : (a : Int) + (j : Int) = (p : Int) := by rw [HPP.out]; omega
                  have hpS : p < S := by have := HPP.out; omega
                  have p0 : (0 : Int) ≤ (p : Int) := by omega
                  have p1 : (p : Int) < (S : Int) := by omega
                  obtain ⟨old, hold⟩ : ∃ old, cur[p]? = some old := ⟨_, List.getElem?_eq_getElem (by rw [HCL.out]; exact hpS)⟩
                  obtain ⟨gr, rfl, _, hat⟩ := HS.out.rowAt 2 rfl (by omega)
                  have e0 := (hat p).1 _ (mem_bool hold)
                  have u0 := (hat p).2.1
                  have K : Hid (Sep w (wr.setCell ⟨gr, p, none⟩ (.bool false)) [.cells go 39 [.int .i64 2, .int .i64 at', .int .i64 (m : Int)], .cells ga 41 [.int .i64 0, .int .i64 0], .row 4 1 (.slice (some ⟨gr, 0, none⟩) S c') S ((cur.set p false).flatMap bcell)]) := Lib.hid (by
                    have := HS.out.field bcell_len 2 rfl (by omega) (k := p) (j := 0) (x := old) hold (by omega) false (.bool false) rfl
                    rw [Nat.mul_one, Nat.add_zero] at this
                    exact this)
                  have HC2 : Hid (∀ k, k < S → (cur.set p false)[k]? = some (if a ≤ k ∧ k < a + (j + 1) then false else mem ln k)) := Lib.hid (fun k hk => by
                    rw [List.getElem?_set]
                    have hp := HPP.out
                    by_cases hip : p = k
                    · rw [if_pos hip, if_pos (by rw [HCL.out]; exact hpS), if_pos (by omega)]
                    · rw [if_neg hip, HC.out k hk]
                      congr 1
                      by_cases hin : a ≤ k ∧ k < a + j
                      · rw [if_pos hin, if_pos (by omega)]
                      · rw [if_neg hin, if_neg (by omega)])
                  have HCL2 : Hid ((cur.set p false).length = S) := Lib.hid (by rw [List.length_set]; exact HCL.out)
                  clear hat hold HS HC
                  go_wp2
                  go_roundg (m - (j + 1))
                  case measure => omega
                  case rel => exact ⟨j + 1, cur.set p false, by omega, rfl, by go_num, HCL2, HC2, K.out⟩
                · obtain rfl : j = m := by omega
                  have HRW := Lib.hid (row_is HOK2.out HCL.out HM2.out HC.out)
                  have cG := Lib.hid (ngaps_any A' S c' cur wr (HS.out.rd 2 rfl) HCL.out hS)
                  have hpart : part cur S = l' := by rw [HRW.out]; exact part_seg HOK2.out
                  rw [hpart] at cG
                  clear hpart HC HRW
                  go_wp2_with fail
                  refine cG.out.mono ?_; rintro en w5 ⟨A5, c5, hc5, rfl, K5⟩
                  have S5 := Lib.hid (HS.out.join K5)
                  clear K5 HS cG f0 f1 f2
                  have e0 := S5.out.cell 1 rfl (k := 0) rfl
                  have e1 := S5.out.cell 1 rfl (k := 1) rfl
                  have u0 := S5.out.froz 1 rfl (k := 0)
                  have u1 := S5.out.froz 1 rfl (k := 1)
                  have S9 := Lib.hid ((S5.out.set 1 rfl (k := 0) (.int .i64 0)).set 1 rfl (k := 1) (.int .i64 (a : Int)))
                  have f0 := S9.out.cell 1 rfl (k := 0) rfl
                  have f1 := S9.out.cell 1 rfl (k := 1) rfl
                  clear S5
                  go_wp2
                  refine bodyPost_ret (v := .tuple #[.slice A5 l'.length c5, .agg #[.int .i64 0, .int .i64 (a : Int)]]) (by simp [results, Try.results21, asAddr, Result.andThen, go_sem, f0, f1]) rfl ?_
                  rw [HRE.out]
                  exact ⟨A5, c5, hc5, rfl, S9.out.pick [3] (by decide) (by simp)⟩
end Sp
end Go.Proofs.Ytakmfjnfkjdbfaa
