/-
  Walk of space.give. Conditions: none.
-/
import Derived.Test.YtakmfjnfkjdbfaaSpG
import Derived.BigRegion
namespace Go.Proofs.Ytakmfjnfkjdbfaa
open Go.RowKit
set_option linter.unusedVariables false
namespace Sp

theorem ncells_one (g : N) : ∀ u ∈ ncells g, u.oneCell' = true := by
  intro u hu
  simp [ncells, G.of, G.cells] at hu
  rcases hu with rfl | rfl <;> rfl
theorem hits_cons (x : N) (t : List N) (a m : Nat) : hitsB (x :: t) a m = (decide (x.a < a + m) && decide (a < x.a + x.m) || hitsB t a m) := rfl

set_option maxRecDepth 100000 in
set_option maxHeartbeats 1600000 in
theorem give_out (A : Option Addr) (n c S : Nat) (kind at' many : Int) (w : World) (hS : S ≤ 4096) (hm : 1 ≤ many) (hmS : many ≤ S) (ho : at' < 0 ∨ (S : Int) - many < at') :
    Calls Try.prog 46 #[.int .i64 (S : Int), .slice A n c, .agg #[.int .i64 kind, .int .i64 at', .int .i64 many]] w (StepRet w ([], 2, 0)) := by
  have S0 : Hid (Sep w ((w.alloc (.cells #[.int .i64 kind, .int .i64 at', .int .i64 many] 39)).alloc (.cells #[.int .i64 0, .int .i64 0] 41)) [.cells w.heap.size 39 [.int .i64 kind, .int .i64 at', .int .i64 many], .cells (w.heap.size + 1) 41 [.int .i64 0, .int .i64 0]]) := Lib.hid (by
    have := ((Sep.nil_ w).new 39 [.int .i64 kind, .int .i64 at', .int .i64 many]).new 41 [.int .i64 0, .int .i64 0]
    simpa using this)
  have H := Lib.hid ho
  clear ho
  go_enter Try.func46, Try.ntmps46
  go_upto_region 1 with (fail)
  generalize ((w.alloc (.cells #[.int .i64 kind, .int .i64 at', .int .i64 many] 39)).alloc (.cells #[.int .i64 0, .int .i64 0] 41)) = wo at S0 ⊢
  generalize w.heap.size = go at S0 ⊢
  have d1 := S0.out.cell 0 rfl (k := 1) rfl
  have d2 := S0.out.cell 0 rfl (k := 2) rfl
  have e0 := S0.out.cell 1 rfl (k := 0) rfl
  have e1 := S0.out.cell 1 rfl (k := 1) rfl
  have u0 := S0.out.froz 1 rfl (k := 0)
  have u1 := S0.out.froz 1 rfl (k := 1)
  have S2 := Lib.hid ((S0.out.set 1 rfl (k := 0) (.int .i64 2)).set 1 rfl (k := 1) (.int .i64 0))
  have f0 := S2.out.cell 1 rfl (k := 0) rfl
  have f1 := S2.out.cell 1 rfl (k := 1) rfl
  by_cases h0 : at' < 0
  · go_wp2
    refine bodyPost_ret (v := .tuple #[.slice none 0 0, .agg #[.int .i64 2, .int .i64 0]]) (by simp [results, Try.results46, asAddr, Result.andThen, go_sem, f0, f1]) rfl ?_
    exact ⟨none, 0, Nat.le_refl _, rfl, (S2.out.pick [] (by decide) (by simp)).nilRow 50 2 none⟩
  · have h1 : (S : Int) - many < at' := H.out.resolve_left h0
    go_wp2
    refine bodyPost_ret (v := .tuple #[.slice none 0 0, .agg #[.int .i64 2, .int .i64 0]]) (by simp [results, Try.results46, asAddr, Result.andThen, go_sem, f0, f1]) rfl ?_
    exact ⟨none, 0, Nat.le_refl _, rfl, (S2.out.pick [] (by decide) (by simp)).nilRow 50 2 none⟩

set_option maxRecDepth 100000 in
set_option maxHeartbeats 6400000 in
theorem give_any (A : Option Addr) (n c S a m : Nat) (kind : Int) (l : List N) (w : World) (hr : Rd w w.heap.size 2 A n (l.flatMap ncells)) (hl : l.length = n) (hn : n ≤ 4096) (hS : S ≤ 4096) (hm : 1 ≤ m) (ham : a + m ≤ S) (hok : Ok S 0 l) :
    Calls Try.prog 46 #[.int .i64 (S : Int), .slice A n c, .agg #[.int .i64 kind, .int .i64 (a : Int), .int .i64 (m : Int)]] w (StepRet w (if hitsB l a m then ([], 6, 0) else (giveL l a m, 0, (a : Int)))) := by
  obtain ⟨ti, hti, t0, t1, t2⟩ := info_parts gap_info
  have S0 : Hid (Sep w ((w.alloc (.cells #[.int .i64 kind, .int .i64 (a : Int), .int .i64 (m : Int)] 39)).alloc (.cells #[.int .i64 0, .int .i64 0] 41)) [.cells w.heap.size 39 [.int .i64 kind, .int .i64 (a : Int), .int .i64 (m : Int)], .cells (w.heap.size + 1) 41 [.int .i64 0, .int .i64 0]]) := Lib.hid (by
    have := ((Sep.nil_ w).new 39 [.int .i64 kind, .int .i64 (a : Int), .int .i64 (m : Int)]).new 41 [.int .i64 0, .int .i64 0]
    simpa using this)
  have HR := Lib.hid hr
  have HL := Lib.hid hl
  have HMS := Lib.hid (ok_mem hok)
  obtain ⟨res, hres⟩ : ∃ r, r = (if hitsB l a m then (([] : List N), (6 : Int), (0 : Int)) else (giveL l a m, 0, (a : Int))) := ⟨_, rfl⟩
  rw [← hres]
  have HRES := Lib.hid hres
  clear hres
  have o0 : ¬ (a : Int) < 0 := by omega
  have o1 : ¬ (S : Int) - (m : Int) < (a : Int) := by omega
  clear hr hl hok
  go_enter Try.func46, Try.ntmps46
  go_upto_region 1 with (fail)
  generalize ((w.alloc (.cells #[.int .i64 kind, .int .i64 (a : Int), .int .i64 (m : Int)] 39)).alloc (.cells #[.int .i64 0, .int .i64 0] 41)) = wo at S0 ⊢
  generalize w.heap.size + 1 = ga at S0 ⊢
  generalize hgo : w.heap.size = go at S0 ⊢
  have d1 := S0.out.cell 0 rfl (k := 1) rfl
  have d2 := S0.out.cell 0 rfl (k := 2) rfl
  go_upto_region 3 with (fail)
  have S1 : Hid (Sep w (wo.alloc (.cells #[.int .i64 (a : Int), .int .i64 (m : Int)] 50)) ([.cells go 39 [.int .i64 kind, .int .i64 (a : Int), .int .i64 (m : Int)], .cells ga 41 [.int .i64 0, .int .i64 0], .cells wo.heap.size 50 (ncells ⟨a, m⟩), .row 50 2 (.slice none 0 0) 0 (([] : List N).flatMap ncells)])) := Lib.hid ((S0.out.new 50 (ncells ⟨a, m⟩)).nilRow 50 2 none)
  have HOB := Lib.hid S0.out.below
  go_upto_region 4 with (fail)
  generalize wo.alloc (.cells #[.int .i64 (a : Int), .int .i64 (m : Int)] 50) = w1 at S1 ⊢
  generalize wo.heap.size = gg at S1 ⊢
  clear S0 d1 d2 HOB wo
  go_wp2
  go_loopg [9, 33] n (fun q v9 i wr => ∃ (k no c9 : Nat) (A9 : Option Addr) (out : List N) (g : N), k ≤ n ∧ q = n - k ∧ i = .int .i64 k ∧ v9 = .slice A9 no c9 ∧ no ≤ c9 ∧ no ≤ k ∧ Hid (out.length = no) ∧ g.a + g.m ≤ S ∧ Hid ((l.drop k).foldl giveStep (out, g) = giveP l a m) ∧ Hid (hitsB (l.drop k) a m = hitsB l a m) ∧ Sep w wr [.cells go 39 [.int .i64 kind, .int .i64 (a : Int), .int .i64 (m : Int)], .cells ga 41 [.int .i64 0, .int .i64 0], .cells gg 50 (ncells g), .row 50 2 (.slice A9 no c9) no (out.flatMap ncells)])
  case atStart => exact ⟨0, 0, 0, none, [], ⟨a, m⟩, Nat.zero_le _, rfl, rfl, rfl, Nat.le_refl _, Nat.le_refl _, Lib.hid rfl, ham, Lib.hid rfl, Lib.hid rfl, S1.out⟩
  case round =>
    clear S1 w1
    obtain ⟨k, no, c9, A9, out, g, hk, rfl, rfl, rfl, hc9, hnk, HNO, hgS, HF, HH, hs⟩ := hrel
    have HS := Lib.hid hs
    clear hs
    have HC9 := Lib.hid hc9
    by_cases hlt : k < n
    · obtain ⟨b, off, rfl, hb, hc⟩ := HR.out.at_ ncells_len (by omega)
      obtain ⟨x, hx⟩ : ∃ x, l[k]? = some x := ⟨_, List.getElem?_eq_getElem (by rw [HL.out]; exact hlt)⟩
      have d0 : wr.cell? ⟨b, off + k * 2, none⟩ = some (.int .i64 (x.a : Int)) := (HS.out.below.cell hb).trans (hc k 0 x _ hx rfl)
      have d1 : wr.cell? ⟨b, off + k * 2 + 1, none⟩ = some (.int .i64 (x.m : Int)) := (HS.out.below.cell hb).trans (hc k 1 x _ hx rfl)
      have i0 : (0 : Int) ≤ (k : Int) := by omega
      have i1 : (k : Int) < (n : Int) := by omega
      obtain ⟨hx1, hx2⟩ := HMS.out x (List.mem_of_getElem? hx)
      have HF2 : Hid ((l.drop (k + 1)).foldl giveStep (giveStep (out, g) x) = giveP l a m) := Lib.hid (by rw [← HF.out, drop_at hx]; rfl)
      have HH2 : Hid (hitsB l a m = (decide (x.a < a + m) && decide (a < x.a + x.m) || hitsB (l.drop (k + 1)) a m)) := Lib.hid (by rw [← HH.out, drop_at hx]; rfl)
      have HS1 : Hid (Sep w (wr.alloc (.cells #[.int .i64 (x.a : Int), .int .i64 (x.m : Int)] 50)) [.cells go 39 [.int .i64 kind, .int .i64 (a : Int), .int .i64 (m : Int)], .cells ga 41 [.int .i64 0, .int .i64 0], .cells gg 50 (ncells g), .row 50 2 (.slice A9 no c9) no (out.flatMap ncells), .cells wr.heap.size 50 (ncells x)]) := Lib.hid (HS.out.new 50 (ncells x))
      clear hc hx HF HH
      go_upto_region 8 with (fail)
      generalize wr.alloc (.cells #[.int .i64 (x.a : Int), .int .i64 (x.m : Int)] 50) = wq at HS1 ⊢
      generalize wr.heap.size = gx at HS1 ⊢
      clear HS d0 d1
      have d1 := HS1.out.cell 0 rfl (k := 1) rfl
      have d2 := HS1.out.cell 0 rfl (k := 2) rfl
      have p0 : wq.cell? ⟨gx, 0, none⟩ = some (.int .i64 (x.a : Int)) := HS1.out.cell 4 rfl (k := 0) rfl
      have p1 : wq.cell? ⟨gx, 1, none⟩ = some (.int .i64 (x.m : Int)) := HS1.out.cell 4 rfl (k := 1) rfl
      have q0 : wq.cell? ⟨gg, 0, none⟩ = some (.int .i64 (g.a : Int)) := HS1.out.cell 2 rfl (k := 0) rfl
      have q1 : wq.cell? ⟨gg, 1, none⟩ = some (.int .i64 (g.m : Int)) := HS1.out.cell 2 rfl (k := 1) rfl
      by_cases hhit : x.a < a + m ∧ a < x.a + x.m
      · obtain ⟨h1, h2⟩ := hhit
        have HE : Hid (hitsB l a m = true) := Lib.hid (by rw [HH2.out, decide_eq_true h1, decide_eq_true h2]; rfl)
        have h1' : (x.a : Int) < (a : Int) + (m : Int) := by omega
        have h2' : (a : Int) < (x.a : Int) + (x.m : Int) := by omega
        have e0 := HS1.out.cell 1 rfl (k := 0) rfl
        have e1 := HS1.out.cell 1 rfl (k := 1) rfl
        have u0 := HS1.out.froz 1 rfl (k := 0)
        have u1 := HS1.out.froz 1 rfl (k := 1)
        have S2 := Lib.hid ((HS1.out.set 1 rfl (k := 0) (.int .i64 6)).set 1 rfl (k := 1) (.int .i64 0))
        have f0 := S2.out.cell 1 rfl (k := 0) rfl
        have f1 := S2.out.cell 1 rfl (k := 1) rfl
        clear HH2 HF2
        go_wp2
        refine bodyPost_ret (v := .tuple #[.slice none 0 0, .agg #[.int .i64 6, .int .i64 0]]) (by simp [results, Try.results46, asAddr, Result.andThen, go_sem, f0, f1]) rfl ?_
        rw [HRES.out, if_pos HE.out]
        exact ⟨none, 0, Nat.le_refl _, rfl, (S2.out.pick [] (by decide) (by simp)).nilRow 50 2 none⟩
      · have HE : Hid (hitsB (l.drop (k + 1)) a m = hitsB l a m) := Lib.hid (by
          rw [HH2.out]
          have : (decide (x.a < a + m) && decide (a < x.a + x.m)) = false := by rw [Bool.and_eq_false_iff]; simp; omega
          rw [this, Bool.false_or])
        have hh' : ¬ ((x.a : Int) < (a : Int) + (m : Int)) ∨ ((x.a : Int) < (a : Int) + (m : Int) ∧ ¬ (a : Int) < (x.a : Int) + (x.m : Int)) := by omega
        have HHH := Lib.hid hh'
        clear HH2 hhit hh'
        by_cases hja : x.a + x.m = g.a
        · have HG2 : Hid (giveStep (out, g) x = (out, ⟨x.a, g.m + x.m⟩)) := Lib.hid (by simp [giveStep, hja])
          rw [HG2.out] at HF2
          have j1 : (x.a : Int) + (x.m : Int) = (g.a : Int) := by omega
          have u0 := HS1.out.froz 2 rfl (k := 0)
          have u1 := HS1.out.froz 2 rfl (k := 1)
          have K : Hid (Sep w ((wq.setCell ⟨gg, 0, none⟩ (.int .i64 (x.a : Int))).setCell ⟨gg, 1, none⟩ (.int .i64 ((g.m : Int) + (x.m : Int)))) [.cells go 39 [.int .i64 kind, .int .i64 (a : Int), .int .i64 (m : Int)], .cells ga 41 [.int .i64 0, .int .i64 0], .cells gg 50 (ncells ⟨x.a, g.m + x.m⟩), .row 50 2 (.slice A9 no c9) no (out.flatMap ncells)]) := Lib.hid (((HS1.out.set 2 rfl (k := 0) (.int .i64 (x.a : Int))).set 2 rfl (k := 1) (.int .i64 ((g.m : Int) + (x.m : Int)))).pick [0, 1, 2, 3] (by decide) (by simp))
          rcases HHH.out with h1 | ⟨h1, h2⟩
          all_goals
            go_upto_region 12 with (fail)
            go_region
            all_goals
              go_wp2
              go_roundg (n - (k + 1))
              case measure => omega
              case rel => exact ⟨k + 1, no, c9, A9, out, ⟨x.a, g.m + x.m⟩, by omega, rfl, by go_num, rfl, hc9, by omega, HNO, by simp; omega, HF2, HE, K.out.drew⟩
        by_cases hjb : g.a + g.m = x.a
        · have HG2 : Hid (giveStep (out, g) x = (out, ⟨g.a, g.m + x.m⟩)) := Lib.hid (by simp [giveStep, hja, hjb])
          rw [HG2.out] at HF2
          have j1 : ¬ (x.a : Int) + (x.m : Int) = (g.a : Int) := by omega
          have j2 : (g.a : Int) + (g.m : Int) = (x.a : Int) := by omega
          have u1 := HS1.out.froz 2 rfl (k := 1)
          have K : Hid (Sep w (wq.setCell ⟨gg, 1, none⟩ (.int .i64 ((g.m : Int) + (x.m : Int)))) [.cells go 39 [.int .i64 kind, .int .i64 (a : Int), .int .i64 (m : Int)], .cells ga 41 [.int .i64 0, .int .i64 0], .cells gg 50 (ncells ⟨g.a, g.m + x.m⟩), .row 50 2 (.slice A9 no c9) no (out.flatMap ncells)]) := Lib.hid ((HS1.out.set 2 rfl (k := 1) (.int .i64 ((g.m : Int) + (x.m : Int)))).pick [0, 1, 2, 3] (by decide) (by simp))
          rcases HHH.out with h1 | ⟨h1, h2⟩
          all_goals
            go_wp2
            go_roundg (n - (k + 1))
            case measure => omega
            case rel => exact ⟨k + 1, no, c9, A9, out, ⟨g.a, g.m + x.m⟩, by omega, rfl, by go_num, rfl, hc9, by omega, HNO, by simp; omega, HF2, HE, K.out⟩
        · have HG2 : Hid (giveStep (out, g) x = (out ++ [x], g)) := Lib.hid (by simp [giveStep, hja, hjb])
          rw [HG2.out] at HF2
          have j1 : ¬ (x.a : Int) + (x.m : Int) = (g.a : Int) := by omega
          have j2 : ¬ (g.a : Int) + (g.m : Int) = (x.a : Int) := by omega
          have HN2 : Hid ((out ++ [x]).length = no + 1) := Lib.hid (by rw [List.length_append, HNO.out]; rfl)
          have hnew := Lib.hid (Rd.of_own (own_new wq 50 #[.int .i64 (x.a : Int), .int .i64 (x.m : Int)] 2 1 rfl (by simp [maxLen]) (Nat.le_refl _)))
          rcases HHH.out with h1 | ⟨h1, h2⟩
          all_goals
            go_wp2_with (at_builtin; refine wpList_append_sep (HS1.out.alloc _) 3 rfl (.tmp 56) (.tmp 58) 37 rfl 50 ti (.agg #[.int .i64 0, .int .i64 0]) 2 16 Try.underlying37 hti t0 t1 t2 rfl (by omega) _ no _ rfl rfl _ _ 1 1 _ rfl hnew.out (by simp [Value.oneCell']) (by simp only [maxLen]; omega) (by omega) ?_; intro A6 c6 w6 hc6 hs6 H6'; have H6 := Lib.hid H6'; clear H6')
            have HB : Hid (Sep w w6 [.cells go 39 [.int .i64 kind, .int .i64 (a : Int), .int .i64 (m : Int)], .cells ga 41 [.int .i64 0, .int .i64 0], .cells gg 50 (ncells g), .row 50 2 (.slice A6 (no + 1) c6) (no + 1) ((out ++ [x]).flatMap ncells)]) := Lib.hid (by rw [List.flatMap_append]; exact H6.out.pick [0, 1, 2, 3] (by decide) (by simp))
            go_roundg (n - (k + 1))
            case measure => omega
            case rel => exact ⟨k + 1, no + 1, c6, A6, out ++ [x], g, by omega, rfl, by go_num, rfl, hc6, by omega, HN2, hgS, HF2, HE, HB.out⟩
    · have HFE : Hid (giveP l a m = (out, g)) := Lib.hid (by rw [← HF.out, List.drop_of_length_le (by rw [HL.out]; omega)]; rfl)
      have HHE : Hid (hitsB l a m = false) := Lib.hid (by rw [← HH.out, List.drop_of_length_le (by rw [HL.out]; omega)]; rfl)
      have cI := Lib.hid (fun V hV hg => index_any A9 no c9 gg out g V hV HNO.out (by omega) hg)
      have hple := insAt_le g out
      rw [HNO.out] at hple
      have HP : Hid (insI g out = if insAt g out < no then (insAt g out : Int) else -1) := Lib.hid (by rw [insI, HNO.out])
      have HFIN : Hid (∀ A' c' w', no + 1 ≤ c' → Sep w w' [.row 50 2 (.slice A' (no + 1) c') (no + 1) ((out.flatMap ncells).take (insAt g out * 2) ++ (ncells g ++ (out.flatMap ncells).drop (insAt g out * 2)))] → StepRet w res (.returned (.tuple #[.slice A' (no + 1) c', .agg #[.int .i64 0, .int .i64 (a : Int)]])) w') := Lib.hid (by
        intro A' c' w' hc' hS'
        rw [HRES.out, HHE.out, if_neg (by decide)]
        have e : giveL l a m = out.take (insAt g out) ++ (g :: out.drop (insAt g out)) := by rw [giveL, HFE.out]; exact ins_at g out
        have hlen : (giveL l a m).length = no + 1 := by rw [e]; simp; have := HNO.out; omega
        unfold StepRet
        rw [hlen]
        refine ⟨A', c', hc', rfl, ?_⟩
        rw [e, List.flatMap_append, List.flatMap_cons, ← flat_take ncells_len, ← flat_drop ncells_len]
        exact hS')
      clear HF HH HFE HHE HR HL HMS HRES
      generalize insI g out = v12 at HP cI
      generalize insAt g out = p at hple HP HFIN
      have HPN := Lib.hid hple
      have HS3 : Hid (Rd wr wr.heap.size 2 A9 no (out.flatMap ncells)) := Lib.hid (HS.out.rd 3 rfl)
      have cI2 := Lib.hid (cI.out wr HS3.out (HS.out.cell 2 rfl (k := 0) rfl))
      go_wp2_with fail
      refine cI2.out.mono ?_; rintro en w2 ⟨rfl, hb2⟩
      have HS2 := Lib.hid (HS.out.later hb2)
      clear cI cI2 HS HS3 hb2
      by_cases hpn : p < no
      · obtain rfl : v12 = (p : Int) := by rw [HP.out, if_pos hpn]
        have v0 : ¬ (p : Int) < 0 := by omega
        have HS : Hid (Sep w w2 [.row 50 2 (.slice A9 no c9) no (out.flatMap ncells), .cells go 39 [.int .i64 kind, .int .i64 (a : Int), .int .i64 (m : Int)], .cells ga 41 [.int .i64 0, .int .i64 0], .cells gg 50 (ncells g)]) := Lib.hid (HS2.out.pick [3, 0, 1, 2] (by decide) (by simp))
        clear HS2
        go_upto_region 19 with (fail)
        refine wp_region_inv0 (fun ac0 L ac w' => ∃ x6 x101 x102 x103 x104 x105 x106 x107 x108, ac = turn ac0 [(6, x6), (101, x101), (102, x102), (103, x103), (104, x104), (105, x105), (106, x106), (107, x107), (108, x108)] ∧ (L 0 = true → x101 = .slice A9 no c9) ∧ (L 1 = true → x102 = .int .i64 (p : Int)) ∧ (L 2 = true → x103 = .agg #[.int .i64 (g.a : Int), .int .i64 (g.m : Int)]) ∧ (L 5 = true → x106 = .pointer (some ⟨go, 1, none⟩)) ∧ (L 6 = true → x107 = .int .i64 (a : Int)) ∧ (L 7 = true → x108 = .agg #[.int .i64 0, .int .i64 (a : Int)]) ∧ (L 8 = true → x6 = x105) ∧ (L 3 = true → L 2 = true) ∧ (L 4 = true → L 0 = true ∧ L 1 = true ∧ L 3 = true) ∧ (L 6 = true → L 5 = true) ∧ (L 7 = true → L 6 = true) ∧ (L 8 = true → L 0 = true ∧ L 1 = true ∧ L 2 = true ∧ L 3 = true ∧ L 4 = true) ∧ (L 9 = true → L 0 = true ∧ L 1 = true ∧ L 2 = true ∧ L 3 = true ∧ L 4 = true ∧ L 5 = true ∧ L 6 = true ∧ L 7 = true ∧ L 8 = true) ∧ (if L 9 = true then (∃ A' c', x105 = .slice A' (no + 1) c' ∧ no + 1 ≤ c' ∧ Sep w w' [.row 50 2 (.slice A' (no + 1) c') (no + 1) ((out.flatMap ncells).take (p * 2) ++ (ncells g ++ (out.flatMap ncells).drop (p * 2))), .cells go 39 [.int .i64 kind, .int .i64 (a : Int), .int .i64 (m : Int)], .cells ga 41 [.int .i64 0, .int .i64 (a : Int)], .cells gg 50 (ncells g)]) else (if L 4 = true then (∃ A' c', x105 = .slice A' (no + 1) c' ∧ no + 1 ≤ c' ∧ Sep w w' [.row 50 2 (.slice A' (no + 1) c') (no + 1) ((out.flatMap ncells).take (p * 2) ++ (ncells g ++ (out.flatMap ncells).drop (p * 2))), .cells go 39 [.int .i64 kind, .int .i64 (a : Int), .int .i64 (m : Int)], .cells ga 41 [.int .i64 0, .int .i64 0], .cells gg 50 (ncells g)]) else (if L 3 = true then (∃ gv, x104 = .slice (some ⟨gv, 0, none⟩) 1 1 ∧ Sep w w' [.row 50 2 (.slice A9 no c9) no (out.flatMap ncells), .cells gv 50 (ncells g), .cells go 39 [.int .i64 kind, .int .i64 (a : Int), .int .i64 (m : Int)], .cells ga 41 [.int .i64 0, .int .i64 0], .cells gg 50 (ncells g)]) else Sep w w' [.row 50 2 (.slice A9 no c9) no (out.flatMap ncells), .cells go 39 [.int .i64 kind, .int .i64 (a : Int), .int .i64 (m : Int)], .cells ga 41 [.int .i64 0, .int .i64 0], .cells gg 50 (ncells g)])))) rfl (by kernel_rfl) ?_ ?_ ?_
        · simp only [turn, List.foldl_cons, List.foldl_nil, List.setIfInBounds_toArray, List.set_cons_succ, List.set_cons_zero]
          exact ⟨_, _, _, _, _, _, _, _, _, rfl, (fun h => absurd h (by decide)), (fun h => absurd h (by decide)), (fun h => absurd h (by decide)), (fun h => absurd h (by decide)), (fun h => absurd h (by decide)), (fun h => absurd h (by decide)), (fun h => absurd h (by decide)), (fun h => absurd h (by decide)), (fun h => absurd h (by decide)), (fun h => absurd h (by decide)), (fun h => absurd h (by decide)), (fun h => absurd h (by decide)), (fun h => absurd h (by decide)), by simpa using HS.out.drew⟩
        · rintro L ac w' i o ⟨x6, x101, x102, x103, x104, x105, x106, x107, x108, ha, p0, p1, p2, p5, p6, p7, p8, q3, q4, q6, q7, q8, q9, hS⟩ ho hi he
          simp only [turn, List.foldl_cons, List.foldl_nil, List.setIfInBounds_toArray, List.set_cons_succ, List.set_cons_zero] at ha ⊢
          subst ha
          rcases i with _|_|_|_|_|_|_|_|_|_|i
          all_goals cases ho
          all_goals simp [Region.binds] at he
          · have h4 : L 4 = false := by cases hh : L 4 with | false => rfl | true => (have hq := q4 hh; simp [hi] at hq)
            have h8 : L 8 = false := by cases hh : L 8 with | false => rfl | true => (have hq := q8 hh; simp [hi] at hq)
            have h9 : L 9 = false := by cases hh : L 9 with | false => rfl | true => (have hq := q9 hh; simp [hi] at hq)
            refine wpOp_step rfl (fun K hK => ?_)
            go_simp
            exact hK _ _ ⟨_, _, _, _, _, _, _, _, _, rfl, (fun _ => rfl), (by first | exact p1 | exact fun _ => rfl), (by first | exact p2 | exact fun _ => rfl), (by first | exact p5 | exact fun _ => rfl), (by first | exact p6 | exact fun _ => rfl), (by first | exact p7 | exact fun _ => rfl), (by simp [h8]), (by simpa using q3), (by simp [h4]), (by simpa using q6), (by simpa using q7), (by simp [h8]), (by simp [h9]), (by simpa [h4, h8, h9] using hS)⟩
          · have h4 : L 4 = false := by cases hh : L 4 with | false => rfl | true => (have hq := q4 hh; simp [hi] at hq)
            have h8 : L 8 = false := by cases hh : L 8 with | false => rfl | true => (have hq := q8 hh; simp [hi] at hq)
            have h9 : L 9 = false := by cases hh : L 9 with | false => rfl | true => (have hq := q9 hh; simp [hi] at hq)
            refine wpOp_step rfl (fun K hK => ?_)
            go_simp
            exact hK _ _ ⟨_, _, _, _, _, _, _, _, _, rfl, (by first | exact p0 | exact fun _ => rfl), (fun _ => rfl), (by first | exact p2 | exact fun _ => rfl), (by first | exact p5 | exact fun _ => rfl), (by first | exact p6 | exact fun _ => rfl), (by first | exact p7 | exact fun _ => rfl), (by simp [h8]), (by simpa using q3), (by simp [h4]), (by simpa using q6), (by simpa using q7), (by simp [h8]), (by simp [h9]), (by simpa [h4, h8, h9] using hS)⟩
          · have h3 : L 3 = false := by cases hh : L 3 with | false => rfl | true => (have hq := q3 hh; simp [hi] at hq)
            have h8 : L 8 = false := by cases hh : L 8 with | false => rfl | true => (have hq := q8 hh; simp [hi] at hq)
            have h9 : L 9 = false := by cases hh : L 9 with | false => rfl | true => (have hq := q9 hh; simp [hi] at hq)
            have h4 : L 4 = false := by cases hh : L 4 with | false => rfl | true => (have hq := q4 hh; simp [h3] at hq)
            have f0 : w'.cell? ⟨gg, 0, none⟩ = some (.int .i64 (g.a : Int)) := by
              rw [if_neg (by simp [h9]), if_neg (by simp [h4]), if_neg (by simp [h3])] at hS
              exact hS.cell 3 rfl (k := 0) rfl
            have f1 : w'.cell? ⟨gg, 1, none⟩ = some (.int .i64 (g.m : Int)) := by
              rw [if_neg (by simp [h9]), if_neg (by simp [h4]), if_neg (by simp [h3])] at hS
              exact hS.cell 3 rfl (k := 1) rfl
            refine wpOp_step rfl (fun K hK => ?_)
            go_simp
            exact hK _ _ ⟨_, _, _, _, _, _, _, _, _, rfl, (by first | exact p0 | exact fun _ => rfl), (by first | exact p1 | exact fun _ => rfl), (fun _ => rfl), (by first | exact p5 | exact fun _ => rfl), (by first | exact p6 | exact fun _ => rfl), (by first | exact p7 | exact fun _ => rfl), (by simp [h8]), (by simp [h3]), (by simp [h4]), (by simpa using q6), (by simpa using q7), (by simp [h8]), (by simp [h9]), (by simpa [h3, h8, h9, h4] using hS)⟩
          · have h4 : L 4 = false := by cases hh : L 4 with | false => rfl | true => (have hq := q4 hh; simp [hi] at hq)
            have h8 : L 8 = false := by cases hh : L 8 with | false => rfl | true => (have hq := q8 hh; simp [hi] at hq)
            have h9 : L 9 = false := by cases hh : L 9 with | false => rfl | true => (have hq := q9 hh; simp [hi] at hq)
            obtain rfl := p2 (by simp [he])
            rw [if_neg (by simp [h9]), if_neg (by simp [h4]), if_neg (by simp [hi])] at hS
            have hN := (hS.new 50 (ncells g)).pick [0, 4, 1, 2, 3] (by decide) (by simp)
            refine wpOp_step rfl (fun K hK => ?_)
            go_simp
            exact hK _ _ ⟨_, _, _, _, _, _, _, _, _, rfl, (by first | exact p0 | exact fun _ => rfl), (by first | exact p1 | exact fun _ => rfl), (by first | exact p2 | exact fun _ => rfl), (by first | exact p5 | exact fun _ => rfl), (by first | exact p6 | exact fun _ => rfl), (by first | exact p7 | exact fun _ => rfl), (by simp [h8]), (by simp [he]), (by simp [h4]), (by simpa using q6), (by simpa using q7), (by simp [h8]), (by simp [h9]), (by rw [if_neg (by simp [h9]), if_neg (by simp [h4]), if_pos (by simp)]; exact ⟨_, rfl, hN⟩)⟩
          · have h8 : L 8 = false := by cases hh : L 8 with | false => rfl | true => (have hq := q8 hh; simp [hi] at hq)
            have h9 : L 9 = false := by cases hh : L 9 with | false => rfl | true => (have hq := q9 hh; simp [hi] at hq)
            obtain rfl := p0 (by simp [he])
            obtain rfl := p1 (by simp [he])
            have t3 : L 3 = true := by simp [he]
            rw [if_neg (by simp [h9]), if_neg (by simp [hi]), if_pos t3] at hS
            obtain ⟨gv, rfl, hS⟩ := hS
            refine wpOp_step rfl (fun K hK => ?_)
            go_simp
            refine (insert_any w w' _ A9 no c9 p gv (out.flatMap ncells) (ncells g) hS rfl (ncells_one g) (gap_one out) (by have := HPN.out; omega) (by omega) HC9.out).mono ?_; rintro en w5 ⟨A', c', rfl, hc', K5⟩
            exact hK _ _ ⟨_, _, _, _, _, _, _, _, _, rfl, (by first | exact p0 | exact fun _ => rfl), (by first | exact p1 | exact fun _ => rfl), (by first | exact p2 | exact fun _ => rfl), (by first | exact p5 | exact fun _ => rfl), (by first | exact p6 | exact fun _ => rfl), (by first | exact p7 | exact fun _ => rfl), (by simp [h8]), (by simpa using q3), (by simp [he]), (by simpa using q6), (by simpa using q7), (by simp [h8]), (by simp [h9]), (by rw [if_neg (by simp [h9]), if_pos (by simp)]; exact ⟨A', c', rfl, hc', K5.pick [0, 2, 3, 4] (by decide) (by simp)⟩)⟩
          · have h6 : L 6 = false := by cases hh : L 6 with | false => rfl | true => (have hq := q6 hh; simp [hi] at hq)
            have h9 : L 9 = false := by cases hh : L 9 with | false => rfl | true => (have hq := q9 hh; simp [hi] at hq)
            have h7 : L 7 = false := by cases hh : L 7 with | false => rfl | true => (have hq := q7 hh; simp [h6] at hq)
            refine wpOp_step rfl (fun K hK => ?_)
            go_simp
            exact hK _ _ ⟨_, _, _, _, _, _, _, _, _, rfl, (by first | exact p0 | exact fun _ => rfl), (by first | exact p1 | exact fun _ => rfl), (by first | exact p2 | exact fun _ => rfl), (fun _ => rfl), (by simp [h6]), (by simp [h7]), (by first | exact p8 | exact fun _ => rfl), (by simpa using q3), (by simpa using q4), (by simp [h6]), (by simp [h7]), (by simpa using q8), (by simp [h9]), (by simpa [h6, h9, h7] using hS)⟩
          · have h7 : L 7 = false := by cases hh : L 7 with | false => rfl | true => (have hq := q7 hh; simp [hi] at hq)
            have h9 : L 9 = false := by cases hh : L 9 with | false => rfl | true => (have hq := q9 hh; simp [hi] at hq)
            obtain rfl := p5 (by simp [he])
            have f0 : w'.cell? ⟨go, 1, none⟩ = some (.int .i64 (a : Int)) := by
              rw [if_neg (by simp [h9])] at hS
              split at hS
              · obtain ⟨A', c', _, _, S⟩ := hS
                exact S.cell 1 rfl (k := 1) rfl
              · split at hS
                · obtain ⟨gv, _, S⟩ := hS
                  exact S.cell 2 rfl (k := 1) rfl
                · exact hS.cell 1 rfl (k := 1) rfl
            refine wpOp_step rfl (fun K hK => ?_)
            go_simp
            exact hK _ _ ⟨_, _, _, _, _, _, _, _, _, rfl, (by first | exact p0 | exact fun _ => rfl), (by first | exact p1 | exact fun _ => rfl), (by first | exact p2 | exact fun _ => rfl), (by first | exact p5 | exact fun _ => rfl), (fun _ => rfl), (by simp [h7]), (by first | exact p8 | exact fun _ => rfl), (by simpa using q3), (by simpa using q4), (by simp [he]), (by simp [h7]), (by simpa using q8), (by simp [h9]), (by simpa [h7, h9] using hS)⟩
          · have h9 : L 9 = false := by cases hh : L 9 with | false => rfl | true => (have hq := q9 hh; simp [hi] at hq)
            obtain rfl := p6 (by simp [he])
            refine wpOp_step rfl (fun K hK => ?_)
            go_simp
            exact hK _ _ ⟨_, _, _, _, _, _, _, _, _, rfl, (by first | exact p0 | exact fun _ => rfl), (by first | exact p1 | exact fun _ => rfl), (by first | exact p2 | exact fun _ => rfl), (by first | exact p5 | exact fun _ => rfl), (by first | exact p6 | exact fun _ => rfl), (fun _ => rfl), (by first | exact p8 | exact fun _ => rfl), (by simpa using q3), (by simpa using q4), (by simpa using q6), (by simp [he]), (by simpa using q8), (by simp [h9]), (by simpa [h9] using hS)⟩
          · have h9 : L 9 = false := by cases hh : L 9 with | false => rfl | true => (have hq := q9 hh; simp [hi] at hq)
            refine wpOp_step rfl (fun K hK => ?_)
            go_simp
            exact hK _ _ ⟨_, _, _, _, _, _, _, _, _, rfl, (by first | exact p0 | exact fun _ => rfl), (by first | exact p1 | exact fun _ => rfl), (by first | exact p2 | exact fun _ => rfl), (by first | exact p5 | exact fun _ => rfl), (by first | exact p6 | exact fun _ => rfl), (by first | exact p7 | exact fun _ => rfl), (fun _ => rfl), (by simpa using q3), (by simpa using q4), (by simpa using q6), (by simpa using q7), (by simp [he]), (by simp [h9]), (by simpa [h9] using hS)⟩
          · obtain rfl := p7 (by simp [he])
            have t3 : L 3 = true := by simp [he]
            have t4 : L 4 = true := by simp [he]
            rw [if_neg (by simp [hi]), if_pos t4] at hS
            obtain ⟨A', c', rfl, hc', hS⟩ := hS
            have e0 := hS.cell 2 rfl (k := 0) rfl
            have e1 := hS.cell 2 rfl (k := 1) rfl
            have u0 := hS.froz 2 rfl (k := 0)
            have u1 := hS.froz 2 rfl (k := 1)
            have hN := (hS.set 2 rfl (k := 0) (.int .i64 0)).set 2 rfl (k := 1) (.int .i64 (a : Int))
            refine wpOp_step rfl (fun K hK => ?_)
            go_simp
            exact hK _ _ ⟨_, _, _, _, _, _, _, _, _, rfl, (by first | exact p0 | exact fun _ => rfl), (by first | exact p1 | exact fun _ => rfl), (by first | exact p2 | exact fun _ => rfl), (by first | exact p5 | exact fun _ => rfl), (by first | exact p6 | exact fun _ => rfl), (by first | exact p7 | exact fun _ => rfl), (by first | exact p8 | exact fun _ => rfl), (by simpa using q3), (by simpa using q4), (by simpa using q6), (by simpa using q7), (by simpa using q8), (by simp [he]), (by rw [if_pos (by simp)]; exact ⟨A', c', rfl, hc', hN⟩)⟩
        · rintro L ac w' ⟨x6, x101, x102, x103, x104, x105, x106, x107, x108, ha, p0, p1, p2, p5, p6, p7, p8, q3, q4, q6, q7, q8, q9, hS⟩ hall
          have t3 := hall 3 (by decide)
          have t4 := hall 4 (by decide)
          have t9 := hall 9 (by decide)
          rw [if_pos t9] at hS
          obtain ⟨A', c', rfl, hc', hS⟩ := hS
          obtain rfl := p0 (hall 0 (by decide))
          obtain rfl := p1 (hall 1 (by decide))
          obtain rfl := p2 (hall 2 (by decide))
          obtain rfl := p5 (hall 5 (by decide))
          obtain rfl := p6 (hall 6 (by decide))
          obtain rfl := p7 (hall 7 (by decide))
          obtain rfl := p8 (hall 8 (by decide))
          simp only [turn, List.foldl_cons, List.foldl_nil, List.setIfInBounds_toArray, List.set_cons_succ, List.set_cons_zero] at ha
          subst ha
          clear q3 q4 q6 q7 q8 q9 t3 t4 t9
          have HS9 := Lib.hid hS
          clear hS
          have f0 := HS9.out.cell 2 rfl (k := 0) rfl
          have f1 := HS9.out.cell 2 rfl (k := 1) rfl
          go_wp2
          refine bodyPost_ret (v := .tuple #[.slice A' (no + 1) c', .agg #[.int .i64 0, .int .i64 (a : Int)]]) (by simp [results, Try.results46, asAddr, Result.andThen, go_sem, f0, f1]) rfl ?_
          exact HFIN.out A' c' _ hc' (HS9.out.pick [0] (by decide) (by simp))
      · obtain rfl : no = p := by omega
        obtain rfl : v12 = -1 := by rw [HP.out, if_neg hpn]
        have HS : Hid (Sep w w2 [.row 50 2 (.slice A9 no c9) no (out.flatMap ncells), .cells go 39 [.int .i64 kind, .int .i64 (a : Int), .int .i64 (m : Int)], .cells ga 41 [.int .i64 0, .int .i64 0], .cells gg 50 (ncells g)]) := Lib.hid (HS2.out.pick [3, 0, 1, 2] (by decide) (by simp))
        clear HS2
        go_upto_region 19 with (fail)
        refine wp_region_inv0 (fun ac0 L ac w' => ∃ x6 x101 x102 x103 x104 x105 x106 x107 x108, ac = turn ac0 [(6, x6), (101, x101), (102, x102), (103, x103), (104, x104), (105, x105), (106, x106), (107, x107), (108, x108)] ∧ (L 0 = true → x101 = .slice A9 no c9) ∧ (L 1 = true → x102 = .int .i64 (no : Int)) ∧ (L 2 = true → x103 = .agg #[.int .i64 (g.a : Int), .int .i64 (g.m : Int)]) ∧ (L 5 = true → x106 = .pointer (some ⟨go, 1, none⟩)) ∧ (L 6 = true → x107 = .int .i64 (a : Int)) ∧ (L 7 = true → x108 = .agg #[.int .i64 0, .int .i64 (a : Int)]) ∧ (L 8 = true → x6 = x105) ∧ (L 3 = true → L 2 = true) ∧ (L 4 = true → L 0 = true ∧ L 1 = true ∧ L 3 = true) ∧ (L 6 = true → L 5 = true) ∧ (L 7 = true → L 6 = true) ∧ (L 8 = true → L 0 = true ∧ L 1 = true ∧ L 2 = true ∧ L 3 = true ∧ L 4 = true) ∧ (L 9 = true → L 0 = true ∧ L 1 = true ∧ L 2 = true ∧ L 3 = true ∧ L 4 = true ∧ L 5 = true ∧ L 6 = true ∧ L 7 = true ∧ L 8 = true) ∧ (if L 9 = true then (∃ A' c', x105 = .slice A' (no + 1) c' ∧ no + 1 ≤ c' ∧ Sep w w' [.row 50 2 (.slice A' (no + 1) c') (no + 1) ((out.flatMap ncells).take (no * 2) ++ (ncells g ++ (out.flatMap ncells).drop (no * 2))), .cells go 39 [.int .i64 kind, .int .i64 (a : Int), .int .i64 (m : Int)], .cells ga 41 [.int .i64 0, .int .i64 (a : Int)], .cells gg 50 (ncells g)]) else (if L 4 = true then (∃ A' c', x105 = .slice A' (no + 1) c' ∧ no + 1 ≤ c' ∧ Sep w w' [.row 50 2 (.slice A' (no + 1) c') (no + 1) ((out.flatMap ncells).take (no * 2) ++ (ncells g ++ (out.flatMap ncells).drop (no * 2))), .cells go 39 [.int .i64 kind, .int .i64 (a : Int), .int .i64 (m : Int)], .cells ga 41 [.int .i64 0, .int .i64 0], .cells gg 50 (ncells g)]) else (if L 3 = true then (∃ gv, x104 = .slice (some ⟨gv, 0, none⟩) 1 1 ∧ Sep w w' [.row 50 2 (.slice A9 no c9) no (out.flatMap ncells), .cells gv 50 (ncells g), .cells go 39 [.int .i64 kind, .int .i64 (a : Int), .int .i64 (m : Int)], .cells ga 41 [.int .i64 0, .int .i64 0], .cells gg 50 (ncells g)]) else Sep w w' [.row 50 2 (.slice A9 no c9) no (out.flatMap ncells), .cells go 39 [.int .i64 kind, .int .i64 (a : Int), .int .i64 (m : Int)], .cells ga 41 [.int .i64 0, .int .i64 0], .cells gg 50 (ncells g)])))) rfl (by kernel_rfl) ?_ ?_ ?_
        · simp only [turn, List.foldl_cons, List.foldl_nil, List.setIfInBounds_toArray, List.set_cons_succ, List.set_cons_zero]
          exact ⟨_, _, _, _, _, _, _, _, _, rfl, (fun h => absurd h (by decide)), (fun h => absurd h (by decide)), (fun h => absurd h (by decide)), (fun h => absurd h (by decide)), (fun h => absurd h (by decide)), (fun h => absurd h (by decide)), (fun h => absurd h (by decide)), (fun h => absurd h (by decide)), (fun h => absurd h (by decide)), (fun h => absurd h (by decide)), (fun h => absurd h (by decide)), (fun h => absurd h (by decide)), (fun h => absurd h (by decide)), by simpa using HS.out.drew⟩
        · rintro L ac w' i o ⟨x6, x101, x102, x103, x104, x105, x106, x107, x108, ha, p0, p1, p2, p5, p6, p7, p8, q3, q4, q6, q7, q8, q9, hS⟩ ho hi he
          simp only [turn, List.foldl_cons, List.foldl_nil, List.setIfInBounds_toArray, List.set_cons_succ, List.set_cons_zero] at ha ⊢
          subst ha
          rcases i with _|_|_|_|_|_|_|_|_|_|i
          all_goals cases ho
          all_goals simp [Region.binds] at he
          · have h4 : L 4 = false := by cases hh : L 4 with | false => rfl | true => (have hq := q4 hh; simp [hi] at hq)
            have h8 : L 8 = false := by cases hh : L 8 with | false => rfl | true => (have hq := q8 hh; simp [hi] at hq)
            have h9 : L 9 = false := by cases hh : L 9 with | false => rfl | true => (have hq := q9 hh; simp [hi] at hq)
            refine wpOp_step rfl (fun K hK => ?_)
            go_simp
            exact hK _ _ ⟨_, _, _, _, _, _, _, _, _, rfl, (fun _ => rfl), (by first | exact p1 | exact fun _ => rfl), (by first | exact p2 | exact fun _ => rfl), (by first | exact p5 | exact fun _ => rfl), (by first | exact p6 | exact fun _ => rfl), (by first | exact p7 | exact fun _ => rfl), (by simp [h8]), (by simpa using q3), (by simp [h4]), (by simpa using q6), (by simpa using q7), (by simp [h8]), (by simp [h9]), (by simpa [h4, h8, h9] using hS)⟩
          · have h4 : L 4 = false := by cases hh : L 4 with | false => rfl | true => (have hq := q4 hh; simp [hi] at hq)
            have h8 : L 8 = false := by cases hh : L 8 with | false => rfl | true => (have hq := q8 hh; simp [hi] at hq)
            have h9 : L 9 = false := by cases hh : L 9 with | false => rfl | true => (have hq := q9 hh; simp [hi] at hq)
            refine wpOp_step rfl (fun K hK => ?_)
            go_simp
            exact hK _ _ ⟨_, _, _, _, _, _, _, _, _, rfl, (by first | exact p0 | exact fun _ => rfl), (fun _ => rfl), (by first | exact p2 | exact fun _ => rfl), (by first | exact p5 | exact fun _ => rfl), (by first | exact p6 | exact fun _ => rfl), (by first | exact p7 | exact fun _ => rfl), (by simp [h8]), (by simpa using q3), (by simp [h4]), (by simpa using q6), (by simpa using q7), (by simp [h8]), (by simp [h9]), (by simpa [h4, h8, h9] using hS)⟩
          · have h3 : L 3 = false := by cases hh : L 3 with | false => rfl | true => (have hq := q3 hh; simp [hi] at hq)
            have h8 : L 8 = false := by cases hh : L 8 with | false => rfl | true => (have hq := q8 hh; simp [hi] at hq)
            have h9 : L 9 = false := by cases hh : L 9 with | false => rfl | true => (have hq := q9 hh; simp [hi] at hq)
            have h4 : L 4 = false := by cases hh : L 4 with | false => rfl | true => (have hq := q4 hh; simp [h3] at hq)
            have f0 : w'.cell? ⟨gg, 0, none⟩ = some (.int .i64 (g.a : Int)) := by
              rw [if_neg (by simp [h9]), if_neg (by simp [h4]), if_neg (by simp [h3])] at hS
              exact hS.cell 3 rfl (k := 0) rfl
            have f1 : w'.cell? ⟨gg, 1, none⟩ = some (.int .i64 (g.m : Int)) := by
              rw [if_neg (by simp [h9]), if_neg (by simp [h4]), if_neg (by simp [h3])] at hS
              exact hS.cell 3 rfl (k := 1) rfl
            refine wpOp_step rfl (fun K hK => ?_)
            go_simp
            exact hK _ _ ⟨_, _, _, _, _, _, _, _, _, rfl, (by first | exact p0 | exact fun _ => rfl), (by first | exact p1 | exact fun _ => rfl), (fun _ => rfl), (by first | exact p5 | exact fun _ => rfl), (by first | exact p6 | exact fun _ => rfl), (by first | exact p7 | exact fun _ => rfl), (by simp [h8]), (by simp [h3]), (by simp [h4]), (by simpa using q6), (by simpa using q7), (by simp [h8]), (by simp [h9]), (by simpa [h3, h8, h9, h4] using hS)⟩
          · have h4 : L 4 = false := by cases hh : L 4 with | false => rfl | true => (have hq := q4 hh; simp [hi] at hq)
            have h8 : L 8 = false := by cases hh : L 8 with | false => rfl | true => (have hq := q8 hh; simp [hi] at hq)
            have h9 : L 9 = false := by cases hh : L 9 with | false => rfl | true => (have hq := q9 hh; simp [hi] at hq)
            obtain rfl := p2 (by simp [he])
            rw [if_neg (by simp [h9]), if_neg (by simp [h4]), if_neg (by simp [hi])] at hS
            have hN := (hS.new 50 (ncells g)).pick [0, 4, 1, 2, 3] (by decide) (by simp)
            refine wpOp_step rfl (fun K hK => ?_)
            go_simp
            exact hK _ _ ⟨_, _, _, _, _, _, _, _, _, rfl, (by first | exact p0 | exact fun _ => rfl), (by first | exact p1 | exact fun _ => rfl), (by first | exact p2 | exact fun _ => rfl), (by first | exact p5 | exact fun _ => rfl), (by first | exact p6 | exact fun _ => rfl), (by first | exact p7 | exact fun _ => rfl), (by simp [h8]), (by simp [he]), (by simp [h4]), (by simpa using q6), (by simpa using q7), (by simp [h8]), (by simp [h9]), (by rw [if_neg (by simp [h9]), if_neg (by simp [h4]), if_pos (by simp)]; exact ⟨_, rfl, hN⟩)⟩
          · have h8 : L 8 = false := by cases hh : L 8 with | false => rfl | true => (have hq := q8 hh; simp [hi] at hq)
            have h9 : L 9 = false := by cases hh : L 9 with | false => rfl | true => (have hq := q9 hh; simp [hi] at hq)
            obtain rfl := p0 (by simp [he])
            obtain rfl := p1 (by simp [he])
            have t3 : L 3 = true := by simp [he]
            rw [if_neg (by simp [h9]), if_neg (by simp [hi]), if_pos t3] at hS
            obtain ⟨gv, rfl, hS⟩ := hS
            refine wpOp_step rfl (fun K hK => ?_)
            go_simp
            refine (insert_any w w' _ A9 no c9 no gv (out.flatMap ncells) (ncells g) hS rfl (ncells_one g) (gap_one out) (by have := HPN.out; omega) (by omega) HC9.out).mono ?_; rintro en w5 ⟨A', c', rfl, hc', K5⟩
            exact hK _ _ ⟨_, _, _, _, _, _, _, _, _, rfl, (by first | exact p0 | exact fun _ => rfl), (by first | exact p1 | exact fun _ => rfl), (by first | exact p2 | exact fun _ => rfl), (by first | exact p5 | exact fun _ => rfl), (by first | exact p6 | exact fun _ => rfl), (by first | exact p7 | exact fun _ => rfl), (by simp [h8]), (by simpa using q3), (by simp [he]), (by simpa using q6), (by simpa using q7), (by simp [h8]), (by simp [h9]), (by rw [if_neg (by simp [h9]), if_pos (by simp)]; exact ⟨A', c', rfl, hc', K5.pick [0, 2, 3, 4] (by decide) (by simp)⟩)⟩
          · have h6 : L 6 = false := by cases hh : L 6 with | false => rfl | true => (have hq := q6 hh; simp [hi] at hq)
            have h9 : L 9 = false := by cases hh : L 9 with | false => rfl | true => (have hq := q9 hh; simp [hi] at hq)
            have h7 : L 7 = false := by cases hh : L 7 with | false => rfl | true => (have hq := q7 hh; simp [h6] at hq)
            refine wpOp_step rfl (fun K hK => ?_)
            go_simp
            exact hK _ _ ⟨_, _, _, _, _, _, _, _, _, rfl, (by first | exact p0 | exact fun _ => rfl), (by first | exact p1 | exact fun _ => rfl), (by first | exact p2 | exact fun _ => rfl), (fun _ => rfl), (by simp [h6]), (by simp [h7]), (by first | exact p8 | exact fun _ => rfl), (by simpa using q3), (by simpa using q4), (by simp [h6]), (by simp [h7]), (by simpa using q8), (by simp [h9]), (by simpa [h6, h9, h7] using hS)⟩
          · have h7 : L 7 = false := by cases hh : L 7 with | false => rfl | true => (have hq := q7 hh; simp [hi] at hq)
            have h9 : L 9 = false := by cases hh : L 9 with | false => rfl | true => (have hq := q9 hh; simp [hi] at hq)
            obtain rfl := p5 (by simp [he])
            have f0 : w'.cell? ⟨go, 1, none⟩ = some (.int .i64 (a : Int)) := by
              rw [if_neg (by simp [h9])] at hS
              split at hS
              · obtain ⟨A', c', _, _, S⟩ := hS
                exact S.cell 1 rfl (k := 1) rfl
              · split at hS
                · obtain ⟨gv, _, S⟩ := hS
                  exact S.cell 2 rfl (k := 1) rfl
                · exact hS.cell 1 rfl (k := 1) rfl
            refine wpOp_step rfl (fun K hK => ?_)
            go_simp
            exact hK _ _ ⟨_, _, _, _, _, _, _, _, _, rfl, (by first | exact p0 | exact fun _ => rfl), (by first | exact p1 | exact fun _ => rfl), (by first | exact p2 | exact fun _ => rfl), (by first | exact p5 | exact fun _ => rfl), (fun _ => rfl), (by simp [h7]), (by first | exact p8 | exact fun _ => rfl), (by simpa using q3), (by simpa using q4), (by simp [he]), (by simp [h7]), (by simpa using q8), (by simp [h9]), (by simpa [h7, h9] using hS)⟩
          · have h9 : L 9 = false := by cases hh : L 9 with | false => rfl | true => (have hq := q9 hh; simp [hi] at hq)
            obtain rfl := p6 (by simp [he])
            refine wpOp_step rfl (fun K hK => ?_)
            go_simp
            exact hK _ _ ⟨_, _, _, _, _, _, _, _, _, rfl, (by first | exact p0 | exact fun _ => rfl), (by first | exact p1 | exact fun _ => rfl), (by first | exact p2 | exact fun _ => rfl), (by first | exact p5 | exact fun _ => rfl), (by first | exact p6 | exact fun _ => rfl), (fun _ => rfl), (by first | exact p8 | exact fun _ => rfl), (by simpa using q3), (by simpa using q4), (by simpa using q6), (by simp [he]), (by simpa using q8), (by simp [h9]), (by simpa [h9] using hS)⟩
          · have h9 : L 9 = false := by cases hh : L 9 with | false => rfl | true => (have hq := q9 hh; simp [hi] at hq)
            refine wpOp_step rfl (fun K hK => ?_)
            go_simp
            exact hK _ _ ⟨_, _, _, _, _, _, _, _, _, rfl, (by first | exact p0 | exact fun _ => rfl), (by first | exact p1 | exact fun _ => rfl), (by first | exact p2 | exact fun _ => rfl), (by first | exact p5 | exact fun _ => rfl), (by first | exact p6 | exact fun _ => rfl), (by first | exact p7 | exact fun _ => rfl), (fun _ => rfl), (by simpa using q3), (by simpa using q4), (by simpa using q6), (by simpa using q7), (by simp [he]), (by simp [h9]), (by simpa [h9] using hS)⟩
          · obtain rfl := p7 (by simp [he])
            have t3 : L 3 = true := by simp [he]
            have t4 : L 4 = true := by simp [he]
            rw [if_neg (by simp [hi]), if_pos t4] at hS
            obtain ⟨A', c', rfl, hc', hS⟩ := hS
            have e0 := hS.cell 2 rfl (k := 0) rfl
            have e1 := hS.cell 2 rfl (k := 1) rfl
            have u0 := hS.froz 2 rfl (k := 0)
            have u1 := hS.froz 2 rfl (k := 1)
            have hN := (hS.set 2 rfl (k := 0) (.int .i64 0)).set 2 rfl (k := 1) (.int .i64 (a : Int))
            refine wpOp_step rfl (fun K hK => ?_)
            go_simp
            exact hK _ _ ⟨_, _, _, _, _, _, _, _, _, rfl, (by first | exact p0 | exact fun _ => rfl), (by first | exact p1 | exact fun _ => rfl), (by first | exact p2 | exact fun _ => rfl), (by first | exact p5 | exact fun _ => rfl), (by first | exact p6 | exact fun _ => rfl), (by first | exact p7 | exact fun _ => rfl), (by first | exact p8 | exact fun _ => rfl), (by simpa using q3), (by simpa using q4), (by simpa using q6), (by simpa using q7), (by simpa using q8), (by simp [he]), (by rw [if_pos (by simp)]; exact ⟨A', c', rfl, hc', hN⟩)⟩
        · rintro L ac w' ⟨x6, x101, x102, x103, x104, x105, x106, x107, x108, ha, p0, p1, p2, p5, p6, p7, p8, q3, q4, q6, q7, q8, q9, hS⟩ hall
          have t3 := hall 3 (by decide)
          have t4 := hall 4 (by decide)
          have t9 := hall 9 (by decide)
          rw [if_pos t9] at hS
          obtain ⟨A', c', rfl, hc', hS⟩ := hS
          obtain rfl := p0 (hall 0 (by decide))
          obtain rfl := p1 (hall 1 (by decide))
          obtain rfl := p2 (hall 2 (by decide))
          obtain rfl := p5 (hall 5 (by decide))
          obtain rfl := p6 (hall 6 (by decide))
          obtain rfl := p7 (hall 7 (by decide))
          obtain rfl := p8 (hall 8 (by decide))
          simp only [turn, List.foldl_cons, List.foldl_nil, List.setIfInBounds_toArray, List.set_cons_succ, List.set_cons_zero] at ha
          subst ha
          clear q3 q4 q6 q7 q8 q9 t3 t4 t9
          have HS9 := Lib.hid hS
          clear hS
          have f0 := HS9.out.cell 2 rfl (k := 0) rfl
          have f1 := HS9.out.cell 2 rfl (k := 1) rfl
          go_wp2
          refine bodyPost_ret (v := .tuple #[.slice A' (no + 1) c', .agg #[.int .i64 0, .int .i64 (a : Int)]]) (by simp [results, Try.results46, asAddr, Result.andThen, go_sem, f0, f1]) rfl ?_
          exact HFIN.out A' c' _ hc' (HS9.out.pick [0] (by decide) (by simp))
end Sp
end Go.Proofs.Ytakmfjnfkjdbfaa
