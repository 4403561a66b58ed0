/-
  Walks of heap.down and of the reference's FDown. Conditions: none.
-/
import Derived.Test.YtfljbiobiobamabHpW
import Derived.BigRegion
namespace Go.Proofs.Ytfljbiobiobamab
open Go.RowKit
set_option linter.unusedVariables false
namespace Hp

set_option maxRecDepth 100000 in
set_option maxHeartbeats 3200000 in
theorem down_any (A : Option Addr) (n c k0 : Nat) (l lf : List W) (w0 w : World) (L : List It) (hs : Sep w0 w (.row 25 2 (.slice A n c) n (l.flatMap W.cells) :: L)) (hl : l.length = n) (hn : n * 16 ≤ 140737488355328) (hk0 : k0 ≤ n) (hd : Down l k0 lf) :
    Calls Try.prog 27 #[.slice A n c, .int .i64 (k0 : Int)] w (fun e w' => e = .returned (.tuple #[]) ∧ Sep w0 w' (.row 25 2 (.slice A n c) n (lf.flatMap W.cells) :: L)) := by
  have H0 := Lib.hid hs
  have HL := Lib.hid hl
  have HD0 := Lib.hid hd
  clear hs hl hd
  go_enter Try.func27, Try.ntmps27
  try go_wp2
  go_loopg [1] (n - k0) (fun g i wr => ∃ (k : Nat) (cur : List W), k ≤ n ∧ g = n - k ∧ i = .int .i64 k ∧ Hid (Down cur k lf) ∧ cur.length = n ∧ Sep w0 wr (.row 25 2 (.slice A n c) n (cur.flatMap W.cells) :: L))
  case atStart => exact ⟨k0, l, hk0, rfl, rfl, HD0, HL.out, H0.out⟩
  case round =>
    clear H0 HD0 HL
    obtain ⟨k, cur, hk, rfl, rfl, HD, hcl, hs⟩ := hrel
    have HS := Lib.hid hs
    have HCL := Lib.hid hcl
    clear hs hcl
    obtain ⟨p, q, HPQ⟩ : ∃ p q : Nat, Hid (p = 2 * k + 1 ∧ q = 2 * k + 2) := ⟨_, _, Lib.hid ⟨rfl, rfl⟩⟩
    have i2 : 2 * (k : Int) + 1 = (p : Int) := by have := HPQ.out; omega
    have i3 : (p : Int) + 1 = (q : Int) := by have := HPQ.out; omega
    have i0 : (0 : Int) ≤ (k : Int) := by omega
    have j0 : (0 : Int) ≤ (p : Int) := by omega
    have j1 : (0 : Int) ≤ (q : Int) := by omega
    obtain ⟨lf', he, hd⟩ : ∃ lf', Hid (lf' = lf) ∧ Down cur k lf' := ⟨lf, Lib.hid rfl, HD.out⟩
    cases hd with
    | none h =>
      have m1 : ¬ q < n := by have := HPQ.out; have := HCL.out; omega
      have m2 : n ≤ p := by have := HPQ.out; have := HCL.out; omega
      clear h HD
      go_wp2
      refine wp_region_later (by kernel_rfl) (by kernel_rfl) ?_
      repeat (go_big_quiet_step (fail))
      refine wpQuiet_nil ?_; intro x1 hw'; obtain ⟨xq, hw''⟩ := hw'; obtain ⟨xw0, h1⟩ := xq; change x1 = xw0 at hw''; subst hw''
      go_wp2
      refine wp_region_later (by kernel_rfl) (by kernel_rfl) ?_
      repeat (go_big_quiet_step (fail))
      refine wpQuiet_nil ?_; intro x2 hw'; obtain ⟨xq, hw''⟩ := hw'; obtain ⟨xw0, h2⟩ := xq; change x2 = xw0 at hw''; subst hw''
      go_wp2
      refine bodyPost_ret (v := .tuple #[]) (by simp [results, Try.results27]) rfl ?_
      exact ⟨rfl, by rw [← he.out]; exact (HS.out.later h1).later h2⟩
    | @stay1 _ _ x a hx ha h hc1 =>
      have HNQ : Hid (n = 2 * k + 2) := Lib.hid (by rw [← HCL.out]; exact h)
      have cx := W.rowCells hx
      have ca : (cur.flatMap W.cells)[p * 2]? = some (.int .i64 a.id) ∧ (cur.flatMap W.cells)[p * 2 + 1]? = some (.int .i64 a.wear) := by rw [HPQ.out.1]; exact W.rowCells ha
      obtain ⟨gb, rfl, _, _⟩ := HS.out.rowAt 0 rfl (by have := HNQ.out; omega)
      have hn0 : 0 < n := by have := HNQ.out; omega
      have k1 : (k : Int) < (n : Int) := by have := HNQ.out; omega
      have m1 : ¬ q < n := by have := HPQ.out; have := HNQ.out; omega
      have m2 : ¬ n ≤ p := by have := HPQ.out; have := HNQ.out; omega
      have m3 : (p : Int) < (n : Int) := by have := HPQ.out; have := HNQ.out; omega
      have cK := Lib.hid (fun W => less_is a x false W hc1)
      clear h HD hx ha hc1
      go_wp2
      refine wp_region_later (by kernel_rfl) (by kernel_rfl) ?_
      repeat (go_big_quiet_step (fail))
      refine wpQuiet_nil ?_; intro x1 hw'; obtain ⟨xq, hw''⟩ := hw'; obtain ⟨xw0, h1⟩ := xq; change x1 = xw0 at hw''; subst hw''
      have HS1 := Lib.hid (HS.out.later h1)
      obtain ⟨gx, hgx, _, hat⟩ := HS1.out.rowAt 0 rfl hn0
      cases hgx
      have d0 := fun z : LaterOf x1 => z.cell ((hat _).1 _ cx.1)
      have d1 := fun z : LaterOf x1 => z.cell ((hat _).1 _ cx.2)
      clear hat
      obtain ⟨gx, hgx, _, hat⟩ := HS1.out.rowAt 0 rfl hn0
      cases hgx
      have e0 := fun z : LaterOf x1 => z.cell ((hat _).1 _ ca.1)
      have e1 := fun z : LaterOf x1 => z.cell ((hat _).1 _ ca.2)
      clear hat
      go_wp2
      refine wp_region_later (by kernel_rfl) (by kernel_rfl) ?_
      repeat (go_big_quiet_step ((go_at_call 46; exact Calls.later (cK.out _))))
      refine wpQuiet_nil ?_; intro x2 hw'; obtain ⟨xq, hw''⟩ := hw'; obtain ⟨xw0, h2⟩ := xq; change x2 = xw0 at hw''; subst hw''
      go_wp2
      refine bodyPost_ret (v := .tuple #[]) (by simp [results, Try.results27]) rfl ?_
      exact ⟨rfl, by rw [← he.out]; exact HS1.out.later h2⟩
    | @go1 _ _ _ x a hx ha h hc1 hr =>
      have HNQ : Hid (n = 2 * k + 2) := Lib.hid (by rw [← HCL.out]; exact h)
      have cx := W.rowCells hx
      have ca : (cur.flatMap W.cells)[p * 2]? = some (.int .i64 a.id) ∧ (cur.flatMap W.cells)[p * 2 + 1]? = some (.int .i64 a.wear) := by rw [HPQ.out.1]; exact W.rowCells ha
      obtain ⟨gb, rfl, _, _⟩ := HS.out.rowAt 0 rfl (by have := HNQ.out; omega)
      have hn0 : 0 < n := by have := HNQ.out; omega
      have k1 : (k : Int) < (n : Int) := by have := HNQ.out; omega
      have HR' : Hid (Down ((cur.set k a).set p x) p lf) := Lib.hid (by rw [HPQ.out.1, ← he.out]; exact hr)
      have m1 : ¬ q < n := by have := HPQ.out; have := HNQ.out; omega
      have m2 : ¬ n ≤ p := by have := HPQ.out; have := HNQ.out; omega
      have m3 : (p : Int) < (n : Int) := by have := HPQ.out; have := HNQ.out; omega
      have cK := Lib.hid (fun W => less_is a x true W hc1)
      clear h HD hx ha hc1 hr
      go_wp2
      refine wp_region_later (by kernel_rfl) (by kernel_rfl) ?_
      repeat (go_big_quiet_step (fail))
      refine wpQuiet_nil ?_; intro x1 hw'; obtain ⟨xq, hw''⟩ := hw'; obtain ⟨xw0, h1⟩ := xq; change x1 = xw0 at hw''; subst hw''
      have HS1 := Lib.hid (HS.out.later h1)
      obtain ⟨gx, hgx, _, hat⟩ := HS1.out.rowAt 0 rfl hn0
      cases hgx
      have d0 := fun z : LaterOf x1 => z.cell ((hat _).1 _ cx.1)
      have d1 := fun z : LaterOf x1 => z.cell ((hat _).1 _ cx.2)
      clear hat
      obtain ⟨gx, hgx, _, hat⟩ := HS1.out.rowAt 0 rfl hn0
      cases hgx
      have e0 := fun z : LaterOf x1 => z.cell ((hat _).1 _ ca.1)
      have e1 := fun z : LaterOf x1 => z.cell ((hat _).1 _ ca.2)
      clear hat
      go_wp2
      refine wp_region_later (by kernel_rfl) (by kernel_rfl) ?_
      repeat (go_big_quiet_step ((go_at_call 46; exact Calls.later (cK.out _))))
      refine wpQuiet_nil ?_; intro x2 hw'; obtain ⟨xq, hw''⟩ := hw'; obtain ⟨xw0, h2⟩ := xq; change x2 = xw0 at hw''; subst hw''
      have HS2 := Lib.hid (HS1.out.later h2)
      clear d0 d1 e0 e1 HS1 HS
      go_wp2
      obtain ⟨gx, hgx, _, hat⟩ := HS2.out.rowAt 0 rfl hn0
      cases hgx
      have d0 := (hat _).1 _ cx.1
      have d1 := (hat _).1 _ cx.2
      have e0 := (hat _).1 _ ca.1
      have e1 := (hat _).1 _ ca.2
      have u0 := (hat (k * 2)).2.1
      have u1 := (hat (k * 2 + 1)).2.1
      have u2 := (hat (p * 2)).2.1
      have u3 := (hat (p * 2 + 1)).2.1
      have K := Lib.hid ((HS2.out.elem W.len 0 rfl k (by have := HCL.out; omega) hn0 a).elem W.len 0 rfl p (by have := HCL.out; rw [List.length_set]; omega) hn0 x)
      clear hat
      go_region
      all_goals
        go_wp2
        go_roundg (n - p)
        case measure => have := HPQ.out; omega
        case rel => exact ⟨p, (cur.set k a).set p x, by omega, rfl, rfl, HR', by simp [HCL.out], K.out.drew⟩
    | @stay2 _ _ x a b cc hx ha hb h hc2 hc1 hc3 =>
      have hnq : 2 * k + 2 < n := by rw [← HCL.out]; exact h
      have cx := W.rowCells hx
      have ca : (cur.flatMap W.cells)[p * 2]? = some (.int .i64 a.id) ∧ (cur.flatMap W.cells)[p * 2 + 1]? = some (.int .i64 a.wear) := by rw [HPQ.out.1]; exact W.rowCells ha
      have cb : (cur.flatMap W.cells)[q * 2]? = some (.int .i64 b.id) ∧ (cur.flatMap W.cells)[q * 2 + 1]? = some (.int .i64 b.wear) := by rw [HPQ.out.2]; exact W.rowCells hb
      obtain ⟨gb, rfl, _, _⟩ := HS.out.rowAt 0 rfl (by omega)
      have hn0 : 0 < n := by omega
      have k1 : (k : Int) < (n : Int) := by omega
      have m1 : q < n := by have := HPQ.out; omega
      have m5 : (q : Int) < (n : Int) := by have := HPQ.out; omega
      have m2 : ¬ n ≤ p := by have := HPQ.out; omega
      have m3 : (p : Int) < (n : Int) := by have := HPQ.out; omega
      have m4 : ¬ n ≤ q := by have := HPQ.out; omega
      have cK2 := Lib.hid (fun W => less_is b a cc W hc2)
      have cK1 := Lib.hid (fun W => less_is a x false W hc1)
      have cK3 := Lib.hid (fun W => less_is b x false W hc3)
      clear h HD hx ha hb hc1 hc2 hc3
      obtain ⟨gx, hgx, _, hat⟩ := HS.out.rowAt 0 rfl hn0
      cases hgx
      have e0 := fun z : LaterOf wr => z.cell ((hat _).1 _ ca.1)
      have e1 := fun z : LaterOf wr => z.cell ((hat _).1 _ ca.2)
      clear hat
      obtain ⟨gx, hgx, _, hat⟩ := HS.out.rowAt 0 rfl hn0
      cases hgx
      have f0 := fun z : LaterOf wr => z.cell ((hat _).1 _ cb.1)
      have f1 := fun z : LaterOf wr => z.cell ((hat _).1 _ cb.2)
      clear hat
      go_wp2
      cases cc with
      | false =>
        refine wp_region_later (by kernel_rfl) (by kernel_rfl) ?_
        repeat (go_big_quiet_step ((go_at_call 46; exact Calls.later (cK2.out _))))
        refine wpQuiet_nil ?_; intro x1 hw'; obtain ⟨xq, hw''⟩ := hw'; obtain ⟨xw0, h1⟩ := xq; change x1 = xw0 at hw''; subst hw''
        have HS1 := Lib.hid (HS.out.later h1)
        clear e0 e1 f0 f1
        obtain ⟨gx, hgx, _, hat⟩ := HS1.out.rowAt 0 rfl hn0
        cases hgx
        have d0 := fun z : LaterOf x1 => z.cell ((hat _).1 _ cx.1)
        have d1 := fun z : LaterOf x1 => z.cell ((hat _).1 _ cx.2)
        clear hat
        obtain ⟨gx, hgx, _, hat⟩ := HS1.out.rowAt 0 rfl hn0
        cases hgx
        have e0 := fun z : LaterOf x1 => z.cell ((hat _).1 _ ca.1)
        have e1 := fun z : LaterOf x1 => z.cell ((hat _).1 _ ca.2)
        clear hat
        go_wp2
        refine wp_region_later (by kernel_rfl) (by kernel_rfl) ?_
        repeat (go_big_quiet_step ((go_at_call 46; exact Calls.later (cK1.out _))))
        refine wpQuiet_nil ?_; intro x2 hw'; obtain ⟨xq, hw''⟩ := hw'; obtain ⟨xw0, h2⟩ := xq; change x2 = xw0 at hw''; subst hw''
        go_wp2
        refine bodyPost_ret (v := .tuple #[]) (by simp [results, Try.results27]) rfl ?_
        exact ⟨rfl, by rw [← he.out]; exact HS1.out.later h2⟩
      | true =>
        refine wp_region_later (by kernel_rfl) (by kernel_rfl) ?_
        repeat (go_big_quiet_step ((go_at_call 46; exact Calls.later (cK2.out _))))
        refine wpQuiet_nil ?_; intro x1 hw'; obtain ⟨xq, hw''⟩ := hw'; obtain ⟨xw0, h1⟩ := xq; change x1 = xw0 at hw''; subst hw''
        have HS1 := Lib.hid (HS.out.later h1)
        clear e0 e1 f0 f1
        obtain ⟨gx, hgx, _, hat⟩ := HS1.out.rowAt 0 rfl hn0
        cases hgx
        have d0 := fun z : LaterOf x1 => z.cell ((hat _).1 _ cx.1)
        have d1 := fun z : LaterOf x1 => z.cell ((hat _).1 _ cx.2)
        clear hat
        obtain ⟨gx, hgx, _, hat⟩ := HS1.out.rowAt 0 rfl hn0
        cases hgx
        have e0 := fun z : LaterOf x1 => z.cell ((hat _).1 _ cb.1)
        have e1 := fun z : LaterOf x1 => z.cell ((hat _).1 _ cb.2)
        clear hat
        go_wp2
        refine wp_region_later (by kernel_rfl) (by kernel_rfl) ?_
        repeat (go_big_quiet_step ((go_at_call 46; exact Calls.later (cK3.out _))))
        refine wpQuiet_nil ?_; intro x2 hw'; obtain ⟨xq, hw''⟩ := hw'; obtain ⟨xw0, h2⟩ := xq; change x2 = xw0 at hw''; subst hw''
        go_wp2
        refine bodyPost_ret (v := .tuple #[]) (by simp [results, Try.results27]) rfl ?_
        exact ⟨rfl, by rw [← he.out]; exact HS1.out.later h2⟩
    | @goL _ _ _ x a b hx ha hb h hc2 hc1 hr =>
      have hnq : 2 * k + 2 < n := by rw [← HCL.out]; exact h
      have cx := W.rowCells hx
      have ca : (cur.flatMap W.cells)[p * 2]? = some (.int .i64 a.id) ∧ (cur.flatMap W.cells)[p * 2 + 1]? = some (.int .i64 a.wear) := by rw [HPQ.out.1]; exact W.rowCells ha
      have cb : (cur.flatMap W.cells)[q * 2]? = some (.int .i64 b.id) ∧ (cur.flatMap W.cells)[q * 2 + 1]? = some (.int .i64 b.wear) := by rw [HPQ.out.2]; exact W.rowCells hb
      obtain ⟨gb, rfl, _, _⟩ := HS.out.rowAt 0 rfl (by omega)
      have hn0 : 0 < n := by omega
      have k1 : (k : Int) < (n : Int) := by omega
      have m1 : q < n := by have := HPQ.out; omega
      have m5 : (q : Int) < (n : Int) := by have := HPQ.out; omega
      have m2 : ¬ n ≤ p := by have := HPQ.out; omega
      have m3 : (p : Int) < (n : Int) := by have := HPQ.out; omega
      have m4 : ¬ n ≤ q := by have := HPQ.out; omega
      have HR' : Hid (Down ((cur.set k a).set p x) p lf) := Lib.hid (by rw [HPQ.out.1, ← he.out]; exact hr)
      have cK2 := Lib.hid (fun W => less_is b a false W hc2)
      have cK1 := Lib.hid (fun W => less_is a x true W hc1)
      clear h HD hx ha hb hc1 hc2 hr
      obtain ⟨gx, hgx, _, hat⟩ := HS.out.rowAt 0 rfl hn0
      cases hgx
      have e0 := fun z : LaterOf wr => z.cell ((hat _).1 _ ca.1)
      have e1 := fun z : LaterOf wr => z.cell ((hat _).1 _ ca.2)
      clear hat
      obtain ⟨gx, hgx, _, hat⟩ := HS.out.rowAt 0 rfl hn0
      cases hgx
      have f0 := fun z : LaterOf wr => z.cell ((hat _).1 _ cb.1)
      have f1 := fun z : LaterOf wr => z.cell ((hat _).1 _ cb.2)
      clear hat
      go_wp2
      refine wp_region_later (by kernel_rfl) (by kernel_rfl) ?_
      repeat (go_big_quiet_step ((go_at_call 46; exact Calls.later (cK2.out _))))
      refine wpQuiet_nil ?_; intro x1 hw'; obtain ⟨xq, hw''⟩ := hw'; obtain ⟨xw0, h1⟩ := xq; change x1 = xw0 at hw''; subst hw''
      have HS1 := Lib.hid (HS.out.later h1)
      clear e0 e1 f0 f1
      obtain ⟨gx, hgx, _, hat⟩ := HS1.out.rowAt 0 rfl hn0
      cases hgx
      have d0 := fun z : LaterOf x1 => z.cell ((hat _).1 _ cx.1)
      have d1 := fun z : LaterOf x1 => z.cell ((hat _).1 _ cx.2)
      clear hat
      obtain ⟨gx, hgx, _, hat⟩ := HS1.out.rowAt 0 rfl hn0
      cases hgx
      have e0 := fun z : LaterOf x1 => z.cell ((hat _).1 _ ca.1)
      have e1 := fun z : LaterOf x1 => z.cell ((hat _).1 _ ca.2)
      clear hat
      go_wp2
      refine wp_region_later (by kernel_rfl) (by kernel_rfl) ?_
      repeat (go_big_quiet_step ((go_at_call 46; exact Calls.later (cK1.out _))))
      refine wpQuiet_nil ?_; intro x2 hw'; obtain ⟨xq, hw''⟩ := hw'; obtain ⟨xw0, h2⟩ := xq; change x2 = xw0 at hw''; subst hw''
      have HS2 := Lib.hid (HS1.out.later h2)
      clear d0 d1 e0 e1 HS1 HS
      go_wp2
      obtain ⟨gx, hgx, _, hat⟩ := HS2.out.rowAt 0 rfl hn0
      cases hgx
      have d0 := (hat _).1 _ cx.1
      have d1 := (hat _).1 _ cx.2
      have e0 := (hat _).1 _ ca.1
      have e1 := (hat _).1 _ ca.2
      have u0 := (hat (k * 2)).2.1
      have u1 := (hat (k * 2 + 1)).2.1
      have u2 := (hat (p * 2)).2.1
      have u3 := (hat (p * 2 + 1)).2.1
      have K := Lib.hid ((HS2.out.elem W.len 0 rfl k (by have := HCL.out; omega) hn0 a).elem W.len 0 rfl p (by have := HCL.out; rw [List.length_set]; omega) hn0 x)
      clear hat
      go_region
      all_goals
        go_wp2
        go_roundg (n - p)
        case measure => have := HPQ.out; omega
        case rel => exact ⟨p, (cur.set k a).set p x, by omega, rfl, rfl, HR', by simp [HCL.out], K.out.drew⟩
    | @goR _ _ _ x a b cc hx ha hb h hc2 hc1 hc3 hr =>
      have hnq : 2 * k + 2 < n := by rw [← HCL.out]; exact h
      have cx := W.rowCells hx
      have ca : (cur.flatMap W.cells)[p * 2]? = some (.int .i64 a.id) ∧ (cur.flatMap W.cells)[p * 2 + 1]? = some (.int .i64 a.wear) := by rw [HPQ.out.1]; exact W.rowCells ha
      have cb : (cur.flatMap W.cells)[q * 2]? = some (.int .i64 b.id) ∧ (cur.flatMap W.cells)[q * 2 + 1]? = some (.int .i64 b.wear) := by rw [HPQ.out.2]; exact W.rowCells hb
      obtain ⟨gb, rfl, _, _⟩ := HS.out.rowAt 0 rfl (by omega)
      have hn0 : 0 < n := by omega
      have k1 : (k : Int) < (n : Int) := by omega
      have m1 : q < n := by have := HPQ.out; omega
      have m5 : (q : Int) < (n : Int) := by have := HPQ.out; omega
      have m2 : ¬ n ≤ p := by have := HPQ.out; omega
      have m3 : (p : Int) < (n : Int) := by have := HPQ.out; omega
      have m4 : ¬ n ≤ q := by have := HPQ.out; omega
      have HR' : Hid (Down ((cur.set k b).set q x) q lf) := Lib.hid (by rw [HPQ.out.2, ← he.out]; exact hr)
      have cK2 := Lib.hid (fun W => less_is b a true W hc2)
      have cK1 := Lib.hid (fun W => less_is b x true W hc3)
      clear h HD hx ha hb hc1 hc2 hc3 hr
      obtain ⟨gx, hgx, _, hat⟩ := HS.out.rowAt 0 rfl hn0
      cases hgx
      have e0 := fun z : LaterOf wr => z.cell ((hat _).1 _ ca.1)
      have e1 := fun z : LaterOf wr => z.cell ((hat _).1 _ ca.2)
      clear hat
      obtain ⟨gx, hgx, _, hat⟩ := HS.out.rowAt 0 rfl hn0
      cases hgx
      have f0 := fun z : LaterOf wr => z.cell ((hat _).1 _ cb.1)
      have f1 := fun z : LaterOf wr => z.cell ((hat _).1 _ cb.2)
      clear hat
      go_wp2
      refine wp_region_later (by kernel_rfl) (by kernel_rfl) ?_
      repeat (go_big_quiet_step ((go_at_call 46; exact Calls.later (cK2.out _))))
      refine wpQuiet_nil ?_; intro x1 hw'; obtain ⟨xq, hw''⟩ := hw'; obtain ⟨xw0, h1⟩ := xq; change x1 = xw0 at hw''; subst hw''
      have HS1 := Lib.hid (HS.out.later h1)
      clear e0 e1 f0 f1
      obtain ⟨gx, hgx, _, hat⟩ := HS1.out.rowAt 0 rfl hn0
      cases hgx
      have d0 := fun z : LaterOf x1 => z.cell ((hat _).1 _ cx.1)
      have d1 := fun z : LaterOf x1 => z.cell ((hat _).1 _ cx.2)
      clear hat
      obtain ⟨gx, hgx, _, hat⟩ := HS1.out.rowAt 0 rfl hn0
      cases hgx
      have e0 := fun z : LaterOf x1 => z.cell ((hat _).1 _ cb.1)
      have e1 := fun z : LaterOf x1 => z.cell ((hat _).1 _ cb.2)
      clear hat
      go_wp2
      refine wp_region_later (by kernel_rfl) (by kernel_rfl) ?_
      repeat (go_big_quiet_step ((go_at_call 46; exact Calls.later (cK1.out _))))
      refine wpQuiet_nil ?_; intro x2 hw'; obtain ⟨xq, hw''⟩ := hw'; obtain ⟨xw0, h2⟩ := xq; change x2 = xw0 at hw''; subst hw''
      have HS2 := Lib.hid (HS1.out.later h2)
      clear d0 d1 e0 e1 HS1 HS
      go_wp2
      obtain ⟨gx, hgx, _, hat⟩ := HS2.out.rowAt 0 rfl hn0
      cases hgx
      have d0 := (hat _).1 _ cx.1
      have d1 := (hat _).1 _ cx.2
      have e0 := (hat _).1 _ cb.1
      have e1 := (hat _).1 _ cb.2
      have u0 := (hat (k * 2)).2.1
      have u1 := (hat (k * 2 + 1)).2.1
      have u2 := (hat (q * 2)).2.1
      have u3 := (hat (q * 2 + 1)).2.1
      have K := Lib.hid ((HS2.out.elem W.len 0 rfl k (by have := HCL.out; omega) hn0 b).elem W.len 0 rfl q (by have := HCL.out; rw [List.length_set]; omega) hn0 x)
      clear hat
      go_region
      all_goals
        go_wp2
        go_roundg (n - q)
        case measure => have := HPQ.out; omega
        case rel => exact ⟨q, (cur.set k b).set q x, by omega, rfl, rfl, HR', by simp [HCL.out], K.out.drew⟩
end Hp
end Go.Proofs.Ytfljbiobiobamab
