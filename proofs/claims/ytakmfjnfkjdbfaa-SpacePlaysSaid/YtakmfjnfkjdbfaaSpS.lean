/-
  Walk of space.Step. Conditions: none.
-/
import Derived.Test.YtakmfjnfkjdbfaaSpT
import Derived.Test.YtakmfjnfkjdbfaaSpG2
namespace Go.Proofs.Ytakmfjnfkjdbfaa
open Go.RowKit
set_option linter.unusedVariables false
namespace Sp

theorem okG_all {S last : Int} : ∀ {l : List G}, okG S last l = true → ∀ g ∈ l, g.at_ + g.many ≤ S
  | [], _, _, h => by simp at h
  | x :: t, h, g, hg => by
    simp only [okG, Bool.and_eq_true, decide_eq_true_eq] at h
    rcases List.mem_cons.1 hg with rfl | hg
    · exact h.1.2
    · exact okG_all h.2 g hg
theorem okG_up {S T last : Int} (hST : S ≤ T) : ∀ {l : List G} {last : Int}, okG S last l = true → okG T last l = true
  | [], _, _ => rfl
  | x :: t, last, h => by
    simp only [okG, Bool.and_eq_true, decide_eq_true_eq] at h ⊢
    obtain ⟨⟨⟨h1, h2⟩, h3⟩, h4⟩ := h
    exact ⟨⟨⟨h1, h2⟩, by omega⟩, okG_up (last := last) hST h4⟩
theorem okG_last {S T : Int} : ∀ {l : List G} {last : Int} {x : G}, okG T last l = true → l.getLast? = some x → x.at_ + x.many ≤ S → okG S last l = true
  | [], _, _, _, h, _ => by simp at h
  | [y], last, x, h, hl, hx => by
    simp at hl
    subst hl
    simp only [okG, Bool.and_eq_true, decide_eq_true_eq, Bool.and_true] at h ⊢
    exact ⟨⟨h.1.1, h.1.2⟩, hx⟩
  | y :: z :: t, last, x, h, hl, hx => by
    rw [okG] at h ⊢
    simp only [Bool.and_eq_true, decide_eq_true_eq] at h
    obtain ⟨⟨⟨h1, h2⟩, h3⟩, h4⟩ := h
    have h5 := okG_last (S := S) (l := z :: t) h4 (by rw [List.getLast?_cons_cons] at hl; exact hl) hx
    have h6 := okG_all h5 z (by simp)
    simp only [okG, Bool.and_eq_true, decide_eq_true_eq] at h4 h5
    simp only [Bool.and_eq_true, decide_eq_true_eq]
    exact ⟨⟨⟨h1, h2⟩, by omega⟩, by rw [okG]; simp only [Bool.and_eq_true, decide_eq_true_eq]; exact h5⟩
theorem cells_of (ln : List N) : (ln.map G.of).flatMap G.cells = ln.flatMap ncells := by
  rw [List.flatMap_map]
  rfl
theorem g_at {l : List G} {k : Nat} {x : G} (h : l[k]? = some x) : (l.flatMap G.cells)[k * 2]? = some (.int .i64 x.at_) ∧ (l.flatMap G.cells)[k * 2 + 1]? = some (.int .i64 x.many) :=
  ⟨flat_get G.len l k 0 x h (by omega), flat_get G.len l k 1 x h (by omega)⟩

set_option maxRecDepth 100000 in
set_option maxHeartbeats 3200000 in
theorem step_bad (A : Option Addr) (n c : Nat) (S kind at' many : Int) (l : List G) (w : World) (hr : Rd w w.heap.size 2 A n (l.flatMap G.cells)) (hl : l.length = n) (hn : n ≤ 9223372036854775807) (hbad : S < 0 ∨ 4096 < S ∨ okG S (-1) l = false) :
    Calls Try.prog 20 #[.int .i64 S, .slice A n c, .agg #[.int .i64 kind, .int .i64 at', .int .i64 many]] w (StepRet w ([], 1, 0)) := by
  have S0 : Hid (Sep w ((w.alloc (.cells #[.int .i64 kind, .int .i64 at', .int .i64 many] 39)).alloc (.cells #[.int .i64 0, .int .i64 0] 41)) [.cells w.heap.size 39 [.int .i64 kind, .int .i64 at', .int .i64 many], .cells (w.heap.size + 1) 41 [.int .i64 0, .int .i64 0]]) := Lib.hid (by
    have := ((Sep.nil_ w).new 39 [.int .i64 kind, .int .i64 at', .int .i64 many]).new 41 [.int .i64 0, .int .i64 0]
    simpa using this)
  have HR := Lib.hid hr
  have HL := Lib.hid hl
  have HB := Lib.hid hbad
  have cR : Hid (∀ b0, okG 4096 (-1) l = b0 → ∀ V, Below ((w.alloc (.cells #[.int .i64 kind, .int .i64 at', .int .i64 many] 39)).alloc (.cells #[.int .i64 0, .int .i64 0] 41)).heap.size ((w.alloc (.cells #[.int .i64 kind, .int .i64 at', .int .i64 many] 39)).alloc (.cells #[.int .i64 0, .int .i64 0] 41)) V → Calls Try.prog 23 #[.slice A n c] V (Ret V (.bool b0))) := Lib.hid (fun b0 hb0 V hV => right_is A n c l b0 V (hr.later (S0.out.below.trans (hV.mono S0.out.below.size))) hl hn hb0)
  clear hr hl hbad
  go_enter Try.func20, Try.ntmps20
  go_upto_region 1 with (fail)
  generalize ((w.alloc (.cells #[.int .i64 kind, .int .i64 at', .int .i64 many] 39)).alloc (.cells #[.int .i64 0, .int .i64 0] 41)) = wo at * 
  generalize w.heap.size + 1 = ga at S0 ⊢
  generalize hgo : w.heap.size = go at S0 ⊢
  by_cases h0 : S < 0
  · go_upto_region 2 with (fail)
    refine wp_region_later (by kernel_rfl) (by kernel_rfl) ?_
    repeat (go_big_quiet_step ((go_at_call 23; exact Calls.later (cR.out _ (LaterOf.h _)))))
    refine wpQuiet_nil ?_; intro x1 hw'; obtain ⟨xq, hw''⟩ := hw'; obtain ⟨xw0, h1⟩ := xq; change x1 = xw0 at hw''; subst hw''
    have S1 := Lib.hid (S0.out.later h1)
    clear S0
    have e0 := S1.out.cell 1 rfl (k := 0) rfl
    have e1 := S1.out.cell 1 rfl (k := 1) rfl
    have u0 := S1.out.froz 1 rfl (k := 0)
    have u1 := S1.out.froz 1 rfl (k := 1)
    have S9 := Lib.hid ((S1.out.set 1 rfl (k := 0) (.int .i64 1)).set 1 rfl (k := 1) (.int .i64 0))
    have f0 := S9.out.cell 1 rfl (k := 0) rfl
    have f1 := S9.out.cell 1 rfl (k := 1) rfl
    clear S1
    go_wp2
    refine bodyPost_ret (v := .tuple #[.slice none 0 0, .agg #[.int .i64 1, .int .i64 0]]) (by simp [results, Try.results20, asAddr, Result.andThen, go_sem, f0, f1]) rfl ?_
    exact ⟨none, 0, Nat.le_refl _, rfl, (S9.out.pick [] (by decide) (by simp)).nilRow 50 2 none⟩
  by_cases h1 : 4096 < S
  · go_upto_region 2 with (fail)
    refine wp_region_later (by kernel_rfl) (by kernel_rfl) ?_
    repeat (go_big_quiet_step ((go_at_call 23; exact Calls.later (cR.out _ (LaterOf.h _)))))
    refine wpQuiet_nil ?_; intro x1 hw'; obtain ⟨xq, hw''⟩ := hw'; obtain ⟨xw0, h1⟩ := xq; change x1 = xw0 at hw''; subst hw''
    have S1 := Lib.hid (S0.out.later h1)
    clear S0
    have e0 := S1.out.cell 1 rfl (k := 0) rfl
    have e1 := S1.out.cell 1 rfl (k := 1) rfl
    have u0 := S1.out.froz 1 rfl (k := 0)
    have u1 := S1.out.froz 1 rfl (k := 1)
    have S9 := Lib.hid ((S1.out.set 1 rfl (k := 0) (.int .i64 1)).set 1 rfl (k := 1) (.int .i64 0))
    have f0 := S9.out.cell 1 rfl (k := 0) rfl
    have f1 := S9.out.cell 1 rfl (k := 1) rfl
    clear S1
    go_wp2
    refine bodyPost_ret (v := .tuple #[.slice none 0 0, .agg #[.int .i64 1, .int .i64 0]]) (by simp [results, Try.results20, asAddr, Result.andThen, go_sem, f0, f1]) rfl ?_
    exact ⟨none, 0, Nat.le_refl _, rfl, (S9.out.pick [] (by decide) (by simp)).nilRow 50 2 none⟩
  have hb := (HB.out.resolve_left h0).resolve_left h1
  have HOK := Lib.hid hb
  clear hb HB
  cases hr4 : okG 4096 (-1) l with
  | false =>
    have cR := Lib.hid (cR.out false hr4)
    go_upto_region 2 with (fail)
    refine wp_region_later (by kernel_rfl) (by kernel_rfl) ?_
    repeat (go_big_quiet_step ((go_at_call 23; exact Calls.later (cR.out _ (LaterOf.h _)))))
    refine wpQuiet_nil ?_; intro x1 hw'; obtain ⟨xq, hw''⟩ := hw'; obtain ⟨xw0, h1⟩ := xq; change x1 = xw0 at hw''; subst hw''
    have S1 := Lib.hid (S0.out.later h1)
    clear S0
    have e0 := S1.out.cell 1 rfl (k := 0) rfl
    have e1 := S1.out.cell 1 rfl (k := 1) rfl
    have u0 := S1.out.froz 1 rfl (k := 0)
    have u1 := S1.out.froz 1 rfl (k := 1)
    have S9 := Lib.hid ((S1.out.set 1 rfl (k := 0) (.int .i64 1)).set 1 rfl (k := 1) (.int .i64 0))
    have f0 := S9.out.cell 1 rfl (k := 0) rfl
    have f1 := S9.out.cell 1 rfl (k := 1) rfl
    clear S1
    go_wp2
    refine bodyPost_ret (v := .tuple #[.slice none 0 0, .agg #[.int .i64 1, .int .i64 0]]) (by simp [results, Try.results20, asAddr, Result.andThen, go_sem, f0, f1]) rfl ?_
    exact ⟨none, 0, Nat.le_refl _, rfl, (S9.out.pick [] (by decide) (by simp)).nilRow 50 2 none⟩
  | true =>
    have cR := Lib.hid (cR.out true hr4)
    have HR4 := Lib.hid hr4
    clear hr4
    obtain ⟨m, rfl⟩ : ∃ m, n = m + 1 := by
      cases n with
      | succ m => exact ⟨m, rfl⟩
      | zero =>
        have h1 := HOK.out
        rw [List.eq_nil_of_length_eq_zero HL.out] at h1
        cases h1
    obtain ⟨x, hx⟩ : ∃ x, l[m]? = some x := ⟨_, List.getElem?_eq_getElem (by rw [HL.out]; omega)⟩
    obtain ⟨b, off, rfl, hb, hc⟩ := HR.out.at_ G.len (by omega)
    have hlast : l.getLast? = some x := by rw [List.getLast?_eq_getElem?, HL.out]; exact hx
    have hxs : S < x.at_ + x.many := by
      rcases Int.lt_or_le S (x.at_ + x.many) with h | h
      · exact h
      · have h2 := okG_last HR4.out hlast h
        rw [HOK.out] at h2
        cases h2
    have hx4 := okG_all HR4.out x (List.mem_of_getElem? hx)
    obtain ⟨ln, hln, hokn⟩ := okG_ok (S := 4096) l 0 (by simpa using HR4.out)
    have hx0 : 0 ≤ x.at_ ∧ 0 ≤ x.many := by
      have hm := List.mem_of_getElem? hx
      rw [hln] at hm
      obtain ⟨y, _, rfl⟩ := List.mem_map.1 hm
      simp only [G.of]
      omega
    obtain ⟨hx01, hx02⟩ := hx0
    have d0 : ∀ z : LaterOf wo, z.w.cell? ⟨b, off + m * 2, none⟩ = some (.int .i64 x.at_) := fun z => z.cell ((S0.out.below.cell hb).trans (hc m 0 x _ hx rfl))
    have d1 : ∀ z : LaterOf wo, z.w.cell? ⟨b, off + m * 2 + 1, none⟩ = some (.int .i64 x.many) := fun z => z.cell ((S0.out.below.cell hb).trans (hc m 1 x _ hx rfl))
    have k1 : ((m + 1 : Nat) : Int) - 1 = (m : Int) := by omega
    have k2 : (0 : Int) ≤ (m : Int) := by omega
    have k3 : (m : Int) < ((m + 1 : Nat) : Int) := by omega
    have k4 : (0 : Int) < ((m + 1 : Nat) : Int) := by omega
    clear hc hx hlast hln hokn HR4 HOK
    go_upto_region 2 with (fail)
    refine wp_region_later (by kernel_rfl) (by kernel_rfl) ?_
    repeat (go_big_quiet_step ((go_at_call 23; exact Calls.later (cR.out _ (LaterOf.h _)))))
    refine wpQuiet_nil ?_; intro x1 hw'; obtain ⟨xq, hw''⟩ := hw'; obtain ⟨xw0, h1⟩ := xq; change x1 = xw0 at hw''; subst hw''
    have S1 := Lib.hid (S0.out.later h1)
    clear S0
    have e0 := S1.out.cell 1 rfl (k := 0) rfl
    have e1 := S1.out.cell 1 rfl (k := 1) rfl
    have u0 := S1.out.froz 1 rfl (k := 0)
    have u1 := S1.out.froz 1 rfl (k := 1)
    have S9 := Lib.hid ((S1.out.set 1 rfl (k := 0) (.int .i64 1)).set 1 rfl (k := 1) (.int .i64 0))
    have f0 := S9.out.cell 1 rfl (k := 0) rfl
    have f1 := S9.out.cell 1 rfl (k := 1) rfl
    clear S1
    go_wp2
    refine bodyPost_ret (v := .tuple #[.slice none 0 0, .agg #[.int .i64 1, .int .i64 0]]) (by simp [results, Try.results20, asAddr, Result.andThen, go_sem, f0, f1]) rfl ?_
    exact ⟨none, 0, Nat.le_refl _, rfl, (S9.out.pick [] (by decide) (by simp)).nilRow 50 2 none⟩

set_option maxRecDepth 100000 in
set_option maxHeartbeats 6400000 in
theorem step_ok (A : Option Addr) (n c S : Nat) (kind at' many : Int) (ln : List N) (w : World) (hr : Rd w w.heap.size 2 A n (ln.flatMap ncells)) (hl : ln.length = n) (hS : S ≤ 4096) (hok : Ok S 0 ln) :
    Calls Try.prog 20 #[.int .i64 (S : Int), .slice A n c, .agg #[.int .i64 kind, .int .i64 at', .int .i64 many]] w (StepRet w (stepL S ln kind at' many)) := by
  have hn : n ≤ 4096 := by have := ok_len ln 0 hok; omega
  have S0 : Hid (Sep w ((w.alloc (.cells #[.int .i64 kind, .int .i64 at', .int .i64 many] 39)).alloc (.cells #[.int .i64 0, .int .i64 0] 41)) [.cells w.heap.size 39 [.int .i64 kind, .int .i64 at', .int .i64 many], .cells (w.heap.size + 1) 41 [.int .i64 0, .int .i64 0]]) := Lib.hid (by
    have := ((Sep.nil_ w).new 39 [.int .i64 kind, .int .i64 at', .int .i64 many]).new 41 [.int .i64 0, .int .i64 0]
    simpa using this)
  have HL := Lib.hid hl
  have HOK := Lib.hid hok
  have hokG := ok_okG ln 0 hok
  have hr4 : okG 4096 (-1) (ln.map G.of) = true := okG_up (S := (S : Int)) (last := 0) (by omega) (by simpa using hokG)
  have HR : Hid (∀ V, Below ((w.alloc (.cells #[.int .i64 kind, .int .i64 at', .int .i64 many] 39)).alloc (.cells #[.int .i64 0, .int .i64 0] 41)).heap.size ((w.alloc (.cells #[.int .i64 kind, .int .i64 at', .int .i64 many] 39)).alloc (.cells #[.int .i64 0, .int .i64 0] 41)) V → Rd V V.heap.size 2 A n (ln.flatMap ncells)) := Lib.hid (fun V hV => hr.later (S0.out.below.trans (hV.mono S0.out.below.size)))
  have HR0 := Lib.hid hr
  have cR : Hid (∀ V, Below ((w.alloc (.cells #[.int .i64 kind, .int .i64 at', .int .i64 many] 39)).alloc (.cells #[.int .i64 0, .int .i64 0] 41)).heap.size ((w.alloc (.cells #[.int .i64 kind, .int .i64 at', .int .i64 many] 39)).alloc (.cells #[.int .i64 0, .int .i64 0] 41)) V → Calls Try.prog 23 #[.slice A n c] V (Ret V (.bool true))) := Lib.hid (fun V hV => right_is A n c (ln.map G.of) true V (by rw [cells_of]; exact HR.out V hV) (by simpa using hl) (by omega) hr4)
  obtain ⟨res, hres⟩ : ∃ r, r = stepL S ln kind at' many := ⟨_, rfl⟩
  rw [← hres]
  have HRES := Lib.hid hres
  clear hr hl hok hokG hr4 hres
  go_enter Try.func20, Try.ntmps20
  go_upto_region 1 with (fail)
  generalize ((w.alloc (.cells #[.int .i64 kind, .int .i64 at', .int .i64 many] 39)).alloc (.cells #[.int .i64 0, .int .i64 0] 41)) = wo at * 
  generalize w.heap.size + 1 = ga at S0 ⊢
  generalize hgo : w.heap.size = go at S0 ⊢
  have s0 : ¬ (S : Int) < 0 := by omega
  have s1 : ¬ 4096 < S := by omega
  have s1' : ¬ (4096 : Int) < (S : Int) := by omega
  rcases Nat.eq_zero_or_pos n with hn0 | hn0
  · subst hn0
    go_upto_region 2 with (fail)
    refine wp_region_later (by kernel_rfl) (by kernel_rfl) ?_
    repeat (go_big_quiet_step ((go_at_call 23; exact Calls.later (cR.out _ (LaterOf.h _)))))
    refine wpQuiet_nil ?_; intro x1 hw'; obtain ⟨xq, hw''⟩ := hw'; obtain ⟨xw0, h1⟩ := xq; change x1 = xw0 at hw''; subst hw''
    have S1 := Lib.hid (S0.out.later h1)
    clear S0
    have q0 := S1.out.cell 0 rfl (k := 0) rfl
    have q1 := S1.out.cell 0 rfl (k := 1) rfl
    have q2 := S1.out.cell 0 rfl (k := 2) rfl
    by_cases g1 : kind < 1
    · obtain rfl : res = ([], 5, 0) := by rw [HRES.out, stepL, if_pos (.inl g1)]
      have e0 := S1.out.cell 1 rfl (k := 0) rfl
      have e1 := S1.out.cell 1 rfl (k := 1) rfl
      have u0 := S1.out.froz 1 rfl (k := 0)
      have u1 := S1.out.froz 1 rfl (k := 1)
      have S9 := Lib.hid ((S1.out.set 1 rfl (k := 0) (.int .i64 5)).set 1 rfl (k := 1) (.int .i64 0))
      have f0 := S9.out.cell 1 rfl (k := 0) rfl
      have f1 := S9.out.cell 1 rfl (k := 1) rfl
      clear S1
      go_wp2
      refine bodyPost_ret (v := .tuple #[.slice none 0 0, .agg #[.int .i64 5, .int .i64 0]]) (by simp [results, Try.results20, asAddr, Result.andThen, go_sem, f0, f1]) rfl ?_
      exact ⟨none, 0, Nat.le_refl _, rfl, (S9.out.pick [] (by decide) (by simp)).nilRow 50 2 none⟩
    by_cases g2 : 3 < kind
    · obtain rfl : res = ([], 5, 0) := by rw [HRES.out, stepL, if_pos (.inr g2)]
      have e0 := S1.out.cell 1 rfl (k := 0) rfl
      have e1 := S1.out.cell 1 rfl (k := 1) rfl
      have u0 := S1.out.froz 1 rfl (k := 0)
      have u1 := S1.out.froz 1 rfl (k := 1)
      have S9 := Lib.hid ((S1.out.set 1 rfl (k := 0) (.int .i64 5)).set 1 rfl (k := 1) (.int .i64 0))
      have f0 := S9.out.cell 1 rfl (k := 0) rfl
      have f1 := S9.out.cell 1 rfl (k := 1) rfl
      clear S1
      go_wp2
      refine bodyPost_ret (v := .tuple #[.slice none 0 0, .agg #[.int .i64 5, .int .i64 0]]) (by simp [results, Try.results20, asAddr, Result.andThen, go_sem, f0, f1]) rfl ?_
      exact ⟨none, 0, Nat.le_refl _, rfl, (S9.out.pick [] (by decide) (by simp)).nilRow 50 2 none⟩
    have g12 : ¬ (kind < 1 ∨ 3 < kind) := by omega
    by_cases g3 : many < 1
    · obtain rfl : res = ([], 2, 0) := by rw [HRES.out, stepL, if_neg g12, if_pos (.inl g3)]
      clear g12
      have e0 := S1.out.cell 1 rfl (k := 0) rfl
      have e1 := S1.out.cell 1 rfl (k := 1) rfl
      have u0 := S1.out.froz 1 rfl (k := 0)
      have u1 := S1.out.froz 1 rfl (k := 1)
      have S9 := Lib.hid ((S1.out.set 1 rfl (k := 0) (.int .i64 2)).set 1 rfl (k := 1) (.int .i64 0))
      have f0 := S9.out.cell 1 rfl (k := 0) rfl
      have f1 := S9.out.cell 1 rfl (k := 1) rfl
      clear S1
      go_wp2
      refine bodyPost_ret (v := .tuple #[.slice none 0 0, .agg #[.int .i64 2, .int .i64 0]]) (by simp [results, Try.results20, asAddr, Result.andThen, go_sem, f0, f1]) rfl ?_
      exact ⟨none, 0, Nat.le_refl _, rfl, (S9.out.pick [] (by decide) (by simp)).nilRow 50 2 none⟩
    by_cases g4 : (S : Int) < many
    · obtain rfl : res = ([], 2, 0) := by rw [HRES.out, stepL, if_neg g12, if_pos (.inr g4)]
      clear g12
      have e0 := S1.out.cell 1 rfl (k := 0) rfl
      have e1 := S1.out.cell 1 rfl (k := 1) rfl
      have u0 := S1.out.froz 1 rfl (k := 0)
      have u1 := S1.out.froz 1 rfl (k := 1)
      have S9 := Lib.hid ((S1.out.set 1 rfl (k := 0) (.int .i64 2)).set 1 rfl (k := 1) (.int .i64 0))
      have f0 := S9.out.cell 1 rfl (k := 0) rfl
      have f1 := S9.out.cell 1 rfl (k := 1) rfl
      clear S1
      go_wp2
      refine bodyPost_ret (v := .tuple #[.slice none 0 0, .agg #[.int .i64 2, .int .i64 0]]) (by simp [results, Try.results20, asAddr, Result.andThen, go_sem, f0, f1]) rfl ?_
      exact ⟨none, 0, Nat.le_refl _, rfl, (S9.out.pick [] (by decide) (by simp)).nilRow 50 2 none⟩
    have g34 : ¬ (many < 1 ∨ (S : Int) < many) := by omega
    obtain ⟨m', hm'⟩ := Int.eq_ofNat_of_zero_le (show 0 ≤ many by omega)
    by_cases g5 : kind = 3
    · subst g5
      have cG : Hid (∀ V, Rd V V.heap.size 2 (A) (0) (ln.flatMap ncells) → Calls Try.prog 46 #[.int .i64 (S : Int), .slice (A) (0) c, .agg #[.int .i64 3, .int .i64 at', .int .i64 many]] V (StepRet V res)) := Lib.hid (fun V hV => by
        by_cases ho : at' < 0 ∨ (S : Int) - many < at'
        · rw [HRES.out, stepL, if_neg g12, if_neg g34, if_pos rfl, if_pos ho]
          exact give_out (A) (0) c S 3 at' many V hS (by omega) (by omega) ho
        · rw [HRES.out, stepL, if_neg g12, if_neg g34, if_pos rfl, if_neg ho]
          obtain ⟨a', ha'⟩ := Int.eq_ofNat_of_zero_le (show 0 ≤ at' by omega)
          subst ha' hm'
          exact give_any (A) (0) c S a' m' 3 ln V hV HL.out hn hS (by omega) (by omega) HOK.out)
      have HG := Lib.hid (And.intro g12 (And.intro g34 hm'))
      clear g12 g34 hm' HRES
      go_wp2_with fail
      refine (cG.out _ (HR.out _ h1)).mono ?_
      clear cG HR q0 q1 q2
      obtain ⟨pl, pe, pa⟩ := res
      rintro en w5 ⟨A5, c5, hc5, rfl, K5⟩
      have S5 := Lib.hid (S1.out.join K5)
      clear K5 S1
      simp only at hc5 S5 ⊢
      have e0 := S5.out.cell 1 rfl (k := 0) rfl
      have e1 := S5.out.cell 1 rfl (k := 1) rfl
      have u0 := S5.out.froz 1 rfl (k := 0)
      have u1 := S5.out.froz 1 rfl (k := 1)
      have S9 := Lib.hid ((S5.out.set 1 rfl (k := 0) (.int .i64 pe)).set 1 rfl (k := 1) (.int .i64 pa))
      have f0 := S9.out.cell 1 rfl (k := 0) rfl
      have f1 := S9.out.cell 1 rfl (k := 1) rfl
      clear S5
      go_wp2
      refine bodyPost_ret (v := .tuple #[.slice A5 pl.length c5, .agg #[.int .i64 pe, .int .i64 pa]]) (by simp [results, Try.results20, asAddr, Result.andThen, go_sem, f0, f1]) rfl ?_
      exact ⟨A5, c5, hc5, rfl, S9.out.pick [2] (by decide) (by simp)⟩
    · have hk3 : (kind == 3) = false := by simp [g5]
      have cG : Hid (∀ V, Rd V V.heap.size 2 (A) (0) (ln.flatMap ncells) → Calls Try.prog 47 #[.slice (A) (0) c, .agg #[.int .i64 kind, .int .i64 at', .int .i64 many]] V (StepRet V res)) := Lib.hid (fun V hV => by
        rw [HRES.out, stepL, if_neg g12, if_neg g34, if_neg g5]
        subst hm'
        rw [HL.out]
        cases hch : chAll (m' : Int).toNat (kind == 2) ln (0) with
        | none => exact take_none (A) (0) c m' kind at' ln V hV HL.out hn hch
        | some p =>
          obtain ⟨i, x⟩ := p
          have := (ok_mem HOK.out x (List.mem_of_getElem? (chAll_at hch).2.1)).2
          exact take_some (A) (0) c m' i kind at' ln x V hV HL.out hn hch (by omega))
      have HG := Lib.hid (And.intro g12 (And.intro g34 hm'))
      clear g12 g34 hm' HRES
      go_wp2_with fail
      refine (cG.out _ (HR.out _ h1)).mono ?_
      clear cG HR q0 q1 q2
      obtain ⟨pl, pe, pa⟩ := res
      rintro en w5 ⟨A5, c5, hc5, rfl, K5⟩
      have S5 := Lib.hid (S1.out.join K5)
      clear K5 S1
      simp only at hc5 S5 ⊢
      have e0 := S5.out.cell 1 rfl (k := 0) rfl
      have e1 := S5.out.cell 1 rfl (k := 1) rfl
      have u0 := S5.out.froz 1 rfl (k := 0)
      have u1 := S5.out.froz 1 rfl (k := 1)
      have S9 := Lib.hid ((S5.out.set 1 rfl (k := 0) (.int .i64 pe)).set 1 rfl (k := 1) (.int .i64 pa))
      have f0 := S9.out.cell 1 rfl (k := 0) rfl
      have f1 := S9.out.cell 1 rfl (k := 1) rfl
      clear S5
      go_wp2
      refine bodyPost_ret (v := .tuple #[.slice A5 pl.length c5, .agg #[.int .i64 pe, .int .i64 pa]]) (by simp [results, Try.results20, asAddr, Result.andThen, go_sem, f0, f1]) rfl ?_
      exact ⟨A5, c5, hc5, rfl, S9.out.pick [2] (by decide) (by simp)⟩
  · obtain ⟨m, rfl⟩ : ∃ m, n = m + 1 := ⟨n - 1, by omega⟩
    obtain ⟨x, hx⟩ : ∃ x, ln[m]? = some x := ⟨_, List.getElem?_eq_getElem (by rw [HL.out]; omega)⟩
    obtain ⟨b, off, rfl, hb, hc⟩ := HR0.out.at_ ncells_len (by omega)
    obtain ⟨hx1, hx2⟩ := ok_mem HOK.out x (List.mem_of_getElem? hx)
    have d0 : ∀ z : LaterOf wo, z.w.cell? ⟨b, off + m * 2, none⟩ = some (.int .i64 (x.a : Int)) := fun z => z.cell ((S0.out.below.cell hb).trans (hc m 0 x _ hx rfl))
    have d1 : ∀ z : LaterOf wo, z.w.cell? ⟨b, off + m * 2 + 1, none⟩ = some (.int .i64 (x.m : Int)) := fun z => z.cell ((S0.out.below.cell hb).trans (hc m 1 x _ hx rfl))
    have k1 : ((m + 1 : Nat) : Int) - 1 = (m : Int) := by omega
    have k2 : (0 : Int) ≤ (m : Int) := by omega
    have k3 : (m : Int) < ((m + 1 : Nat) : Int) := by omega
    have k4 : (0 : Int) < ((m + 1 : Nat) : Int) := by omega
    have k5 : ¬ (S : Int) < (x.a : Int) + (x.m : Int) := by omega
    clear hc hx
    go_upto_region 2 with (fail)
    refine wp_region_later (by kernel_rfl) (by kernel_rfl) ?_
    repeat (go_big_quiet_step ((go_at_call 23; exact Calls.later (cR.out _ (LaterOf.h _)))))
    refine wpQuiet_nil ?_; intro x1 hw'; obtain ⟨xq, hw''⟩ := hw'; obtain ⟨xw0, h1⟩ := xq; change x1 = xw0 at hw''; subst hw''
    have S1 := Lib.hid (S0.out.later h1)
    clear S0
    have q0 := S1.out.cell 0 rfl (k := 0) rfl
    have q1 := S1.out.cell 0 rfl (k := 1) rfl
    have q2 := S1.out.cell 0 rfl (k := 2) rfl
    by_cases g1 : kind < 1
    · obtain rfl : res = ([], 5, 0) := by rw [HRES.out, stepL, if_pos (.inl g1)]
      have e0 := S1.out.cell 1 rfl (k := 0) rfl
      have e1 := S1.out.cell 1 rfl (k := 1) rfl
      have u0 := S1.out.froz 1 rfl (k := 0)
      have u1 := S1.out.froz 1 rfl (k := 1)
      have S9 := Lib.hid ((S1.out.set 1 rfl (k := 0) (.int .i64 5)).set 1 rfl (k := 1) (.int .i64 0))
      have f0 := S9.out.cell 1 rfl (k := 0) rfl
      have f1 := S9.out.cell 1 rfl (k := 1) rfl
      clear S1
      go_wp2
      refine bodyPost_ret (v := .tuple #[.slice none 0 0, .agg #[.int .i64 5, .int .i64 0]]) (by simp [results, Try.results20, asAddr, Result.andThen, go_sem, f0, f1]) rfl ?_
      exact ⟨none, 0, Nat.le_refl _, rfl, (S9.out.pick [] (by decide) (by simp)).nilRow 50 2 none⟩
    by_cases g2 : 3 < kind
    · obtain rfl : res = ([], 5, 0) := by rw [HRES.out, stepL, if_pos (.inr g2)]
      have e0 := S1.out.cell 1 rfl (k := 0) rfl
      have e1 := S1.out.cell 1 rfl (k := 1) rfl
      have u0 := S1.out.froz 1 rfl (k := 0)
      have u1 := S1.out.froz 1 rfl (k := 1)
      have S9 := Lib.hid ((S1.out.set 1 rfl (k := 0) (.int .i64 5)).set 1 rfl (k := 1) (.int .i64 0))
      have f0 := S9.out.cell 1 rfl (k := 0) rfl
      have f1 := S9.out.cell 1 rfl (k := 1) rfl
      clear S1
      go_wp2
      refine bodyPost_ret (v := .tuple #[.slice none 0 0, .agg #[.int .i64 5, .int .i64 0]]) (by simp [results, Try.results20, asAddr, Result.andThen, go_sem, f0, f1]) rfl ?_
      exact ⟨none, 0, Nat.le_refl _, rfl, (S9.out.pick [] (by decide) (by simp)).nilRow 50 2 none⟩
    have g12 : ¬ (kind < 1 ∨ 3 < kind) := by omega
    by_cases g3 : many < 1
    · obtain rfl : res = ([], 2, 0) := by rw [HRES.out, stepL, if_neg g12, if_pos (.inl g3)]
      clear g12
      have e0 := S1.out.cell 1 rfl (k := 0) rfl
      have e1 := S1.out.cell 1 rfl (k := 1) rfl
      have u0 := S1.out.froz 1 rfl (k := 0)
      have u1 := S1.out.froz 1 rfl (k := 1)
      have S9 := Lib.hid ((S1.out.set 1 rfl (k := 0) (.int .i64 2)).set 1 rfl (k := 1) (.int .i64 0))
      have f0 := S9.out.cell 1 rfl (k := 0) rfl
      have f1 := S9.out.cell 1 rfl (k := 1) rfl
      clear S1
      go_wp2
      refine bodyPost_ret (v := .tuple #[.slice none 0 0, .agg #[.int .i64 2, .int .i64 0]]) (by simp [results, Try.results20, asAddr, Result.andThen, go_sem, f0, f1]) rfl ?_
      exact ⟨none, 0, Nat.le_refl _, rfl, (S9.out.pick [] (by decide) (by simp)).nilRow 50 2 none⟩
    by_cases g4 : (S : Int) < many
    · obtain rfl : res = ([], 2, 0) := by rw [HRES.out, stepL, if_neg g12, if_pos (.inr g4)]
      clear g12
      have e0 := S1.out.cell 1 rfl (k := 0) rfl
      have e1 := S1.out.cell 1 rfl (k := 1) rfl
      have u0 := S1.out.froz 1 rfl (k := 0)
      have u1 := S1.out.froz 1 rfl (k := 1)
      have S9 := Lib.hid ((S1.out.set 1 rfl (k := 0) (.int .i64 2)).set 1 rfl (k := 1) (.int .i64 0))
      have f0 := S9.out.cell 1 rfl (k := 0) rfl
      have f1 := S9.out.cell 1 rfl (k := 1) rfl
      clear S1
      go_wp2
      refine bodyPost_ret (v := .tuple #[.slice none 0 0, .agg #[.int .i64 2, .int .i64 0]]) (by simp [results, Try.results20, asAddr, Result.andThen, go_sem, f0, f1]) rfl ?_
      exact ⟨none, 0, Nat.le_refl _, rfl, (S9.out.pick [] (by decide) (by simp)).nilRow 50 2 none⟩
    have g34 : ¬ (many < 1 ∨ (S : Int) < many) := by omega
    obtain ⟨m', hm'⟩ := Int.eq_ofNat_of_zero_le (show 0 ≤ many by omega)
    by_cases g5 : kind = 3
    · subst g5
      have cG : Hid (∀ V, Rd V V.heap.size 2 (some ⟨b, off, none⟩) (m + 1) (ln.flatMap ncells) → Calls Try.prog 46 #[.int .i64 (S : Int), .slice (some ⟨b, off, none⟩) (m + 1) c, .agg #[.int .i64 3, .int .i64 at', .int .i64 many]] V (StepRet V res)) := Lib.hid (fun V hV => by
        by_cases ho : at' < 0 ∨ (S : Int) - many < at'
        · rw [HRES.out, stepL, if_neg g12, if_neg g34, if_pos rfl, if_pos ho]
          exact give_out (some ⟨b, off, none⟩) (m + 1) c S 3 at' many V hS (by omega) (by omega) ho
        · rw [HRES.out, stepL, if_neg g12, if_neg g34, if_pos rfl, if_neg ho]
          obtain ⟨a', ha'⟩ := Int.eq_ofNat_of_zero_le (show 0 ≤ at' by omega)
          subst ha' hm'
          exact give_any (some ⟨b, off, none⟩) (m + 1) c S a' m' 3 ln V hV HL.out hn hS (by omega) (by omega) HOK.out)
      have HG := Lib.hid (And.intro g12 (And.intro g34 hm'))
      clear g12 g34 hm' HRES
      go_wp2_with fail
      refine (cG.out _ (HR.out _ h1)).mono ?_
      clear cG HR q0 q1 q2
      obtain ⟨pl, pe, pa⟩ := res
      rintro en w5 ⟨A5, c5, hc5, rfl, K5⟩
      have S5 := Lib.hid (S1.out.join K5)
      clear K5 S1
      simp only at hc5 S5 ⊢
      have e0 := S5.out.cell 1 rfl (k := 0) rfl
      have e1 := S5.out.cell 1 rfl (k := 1) rfl
      have u0 := S5.out.froz 1 rfl (k := 0)
      have u1 := S5.out.froz 1 rfl (k := 1)
      have S9 := Lib.hid ((S5.out.set 1 rfl (k := 0) (.int .i64 pe)).set 1 rfl (k := 1) (.int .i64 pa))
      have f0 := S9.out.cell 1 rfl (k := 0) rfl
      have f1 := S9.out.cell 1 rfl (k := 1) rfl
      clear S5
      go_wp2
      refine bodyPost_ret (v := .tuple #[.slice A5 pl.length c5, .agg #[.int .i64 pe, .int .i64 pa]]) (by simp [results, Try.results20, asAddr, Result.andThen, go_sem, f0, f1]) rfl ?_
      exact ⟨A5, c5, hc5, rfl, S9.out.pick [2] (by decide) (by simp)⟩
    · have hk3 : (kind == 3) = false := by simp [g5]
      have cG : Hid (∀ V, Rd V V.heap.size 2 (some ⟨b, off, none⟩) (m + 1) (ln.flatMap ncells) → Calls Try.prog 47 #[.slice (some ⟨b, off, none⟩) (m + 1) c, .agg #[.int .i64 kind, .int .i64 at', .int .i64 many]] V (StepRet V res)) := Lib.hid (fun V hV => by
        rw [HRES.out, stepL, if_neg g12, if_neg g34, if_neg g5]
        subst hm'
        rw [HL.out]
        cases hch : chAll (m' : Int).toNat (kind == 2) ln (m + 1) with
        | none => exact take_none (some ⟨b, off, none⟩) (m + 1) c m' kind at' ln V hV HL.out hn hch
        | some p =>
          obtain ⟨i, x⟩ := p
          have := (ok_mem HOK.out x (List.mem_of_getElem? (chAll_at hch).2.1)).2
          exact take_some (some ⟨b, off, none⟩) (m + 1) c m' i kind at' ln x V hV HL.out hn hch (by omega))
      have HG := Lib.hid (And.intro g12 (And.intro g34 hm'))
      clear g12 g34 hm' HRES
      go_wp2_with fail
      refine (cG.out _ (HR.out _ h1)).mono ?_
      clear cG HR q0 q1 q2
      obtain ⟨pl, pe, pa⟩ := res
      rintro en w5 ⟨A5, c5, hc5, rfl, K5⟩
      have S5 := Lib.hid (S1.out.join K5)
      clear K5 S1
      simp only at hc5 S5 ⊢
      have e0 := S5.out.cell 1 rfl (k := 0) rfl
      have e1 := S5.out.cell 1 rfl (k := 1) rfl
      have u0 := S5.out.froz 1 rfl (k := 0)
      have u1 := S5.out.froz 1 rfl (k := 1)
      have S9 := Lib.hid ((S5.out.set 1 rfl (k := 0) (.int .i64 pe)).set 1 rfl (k := 1) (.int .i64 pa))
      have f0 := S9.out.cell 1 rfl (k := 0) rfl
      have f1 := S9.out.cell 1 rfl (k := 1) rfl
      clear S5
      go_wp2
      refine bodyPost_ret (v := .tuple #[.slice A5 pl.length c5, .agg #[.int .i64 pe, .int .i64 pa]]) (by simp [results, Try.results20, asAddr, Result.andThen, go_sem, f0, f1]) rfl ?_
      exact ⟨A5, c5, hc5, rfl, S9.out.pick [2] (by decide) (by simp)⟩
end Sp
end Go.Proofs.Ytakmfjnfkjdbfaa
