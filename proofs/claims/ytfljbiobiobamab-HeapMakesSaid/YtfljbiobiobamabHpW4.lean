/-
  Walk of the reference's FDown. Conditions: none.
-/
import Derived.Test.YtfljbiobiobamabHpW3
namespace Go.Proofs.Ytfljbiobiobamab
open Go.RowKit
set_option linter.unusedVariables false
namespace Hp

/-- the better one of two places -/
def best1 (cur : List W) (bi c : Nat) : Nat := match cur[c]?, cur[bi]? with
  | some y, some z => if lt y z then c else bi
  | _, _ => bi
theorem best_of_down {cur lf : List W} {k : Nat} (h : Down cur k lf) (hk : k < cur.length) : (best1 cur (best1 cur k (2 * k + 1)) (2 * k + 2) = k ∧ lf = cur) ∨
    ∃ b x y, best1 cur (best1 cur k (2 * k + 1)) (2 * k + 2) = b ∧ k < b ∧ b < cur.length ∧ cur[k]? = some x ∧ cur[b]? = some y ∧ Down ((cur.set k y).set b x) b lf := by
  cases h with
  | none h =>
    left
    have h1 : cur[2 * k + 1]? = none := List.getElem?_eq_none (by omega)
    have h2 : cur[2 * k + 2]? = none := List.getElem?_eq_none (by omega)
    simp [best1, h1, h2]
  | stay1 hx ha h h1 =>
    left
    have h2 : cur[2 * k + 2]? = none := List.getElem?_eq_none (by omega)
    simp [best1, hx, ha, h2, h1]
  | go1 hx ha h h1 r =>
    right
    have h2 : cur[2 * k + 2]? = none := List.getElem?_eq_none (by omega)
    exact ⟨2 * k + 1, _, _, by simp [best1, hx, ha, h2, h1], by omega, by omega, hx, ha, r⟩
  | stay2 hx ha hb h h2 h1 h3 =>
    left
    simp [best1, hx, ha, hb, h1, h3]
  | goL hx ha hb h h2 h1 r =>
    right
    exact ⟨2 * k + 1, _, _, by simp [best1, hx, ha, hb, h1, h2], by omega, by omega, hx, ha, r⟩
  | @goR _ _ _ x a b c hx ha hb h h2 h1 h3 r =>
    right
    refine ⟨2 * k + 2, _, _, ?_, by omega, by omega, hx, hb, r⟩
    cases c <;> simp [best1, hx, ha, hb, h1, h2, h3]

set_option maxRecDepth 100000 in
set_option maxHeartbeats 3200000 in
theorem fdown_any (A : Option Addr) (n c k0 : Nat) (l lf : List W) (w : World) (hr : Rd w w.heap.size 2 A n (l.flatMap W.cells)) (hl : l.length = n) (hn : n * 16 ≤ 140737488355328) (hk0 : k0 < n) (hd : Down l k0 lf) :
    Calls Try.prog 28 #[.slice A n c, .int .i64 (k0 : Int)] w (SliceRet w 25 2 n (lf.flatMap W.cells)) := by
  obtain ⟨ti, hti, t0, t1, t2⟩ := info_parts worn_info
  have HR := Lib.hid hr
  have HL := Lib.hid hl
  have HD0 := Lib.hid hd
  clear hr hl hd
  have HS0 : Hid (Sep w (w.alloc (.cells #[] 25)) [.row 25 2 (.slice (some ⟨w.heap.size, 0, none⟩) 0 0) 0 []]) := Lib.hid (((Sep.nil_ w).alloc _).nilRow 25 2 _)
  have HRs := Lib.hid (HR.out.later HS0.out.below)
  go_enter Try.func28, Try.ntmps28
  go_wp2_with (at_builtin; refine wpList_append_sep HS0.out 0 rfl (.tmp 9) (.tmp 10) 22 rfl 25 ti (.agg #[.int .i64 0, .int .i64 0]) 2 16 Try.underlying22 hti t0 t1 t2 rfl (by omega) _ 0 _ rfl rfl _ _ n c _ rfl HRs.out (W.one l) (by simp only [maxLen]; omega) (by omega) ?_; intro A6 c6 w3 hc6 hs3 HA'; have HA := Lib.hid HA'; clear HA')
  simp only [Nat.zero_add, List.nil_append] at HA hc6 ⊢
  go_loopg [1] (n - k0) (fun g i wr => ∃ (k : Nat) (cur : List W), k < n ∧ g = n - k ∧ i = .int .i64 k ∧ Hid (Down cur k lf) ∧ cur.length = n ∧ Sep w wr [.row 25 2 (.slice A6 n c6) n (cur.flatMap W.cells)])
  case atStart => exact ⟨k0, l, hk0, rfl, rfl, HD0, HL.out, HA.out⟩
  case round =>
    clear HA HD0 HL HS0 HRs HR
    obtain ⟨k, cur, hk, rfl, rfl, HD, hcl, hs⟩ := hrel
    have HS := Lib.hid hs
    have HCL := Lib.hid hcl
    clear hs hcl
    obtain ⟨p, q, HPQ⟩ : ∃ p q : Nat, Hid (p = 2 * k + 1 ∧ q = 2 * k + 2) := ⟨_, _, Lib.hid ⟨rfl, rfl⟩⟩
    have i2 : 2 * (k : Int) + 1 = (p : Int) := by have := HPQ.out; omega
    have i3 : 2 * (k : Int) + 2 = (q : Int) := by have := HPQ.out; omega
    have i0 : (0 : Int) ≤ (k : Int) := by omega
    have hn0 : 0 < n := by omega
    obtain ⟨gb, rfl, _, _⟩ := HS.out.rowAt 0 rfl hn0
    have HS1 : Hid (Sep w (wr.alloc (.cells #[.int .i64 (p : Int), .int .i64 (q : Int)] 3)) [.row 25 2 (.slice (some ⟨gb, 0, none⟩) n c6) n (cur.flatMap W.cells), .cells wr.heap.size 3 [.int .i64 (p : Int), .int .i64 (q : Int)]]) := Lib.hid (HS.out.new 3 [.int .i64 (p : Int), .int .i64 (q : Int)])
    go_wp2
    generalize wr.alloc (.cells #[.int .i64 (p : Int), .int .i64 (q : Int)] 3) = wo at HS1 ⊢
    generalize wr.heap.size = gi at HS1 ⊢
    clear HS
    go_loopg [6, 21] 2 (fun g v6 i wr => ∃ m bi : Nat, m ≤ 2 ∧ g = 2 - m ∧ i = .int .i64 m ∧ v6 = .int .i64 (bi : Int) ∧ bi < n ∧ Hid (bi = if m = 0 then k else if m = 1 then best1 cur k p else best1 cur (best1 cur k p) q) ∧ Sep w wr [.row 25 2 (.slice (some ⟨gb, 0, none⟩) n c6) n (cur.flatMap W.cells), .cells gi 3 [.int .i64 (p : Int), .int .i64 (q : Int)]])
    case atStart => exact ⟨0, k, by omega, rfl, rfl, rfl, hk, Lib.hid rfl, HS1.out⟩
    case round =>
      clear HS1 wo
      obtain ⟨m, bi, hm, rfl, rfl, rfl, hbi, HB, hs⟩ := hrel
      have HS := Lib.hid hs
      clear hs
      have f0 := HS.out.cell 1 rfl (k := 0) rfl
      have f1 := HS.out.cell 1 rfl (k := 1) rfl
      rcases (show m = 0 ∨ m = 1 ∨ m = 2 by omega) with rfl | rfl | rfl
      · have HB0 : Hid (bi = k) := Lib.hid HB.out
        by_cases hcn : p < n
        · obtain ⟨y, hy⟩ : ∃ y, cur[p]? = some y := ⟨_, List.getElem?_eq_getElem (by rw [HCL.out]; exact hcn)⟩
          obtain ⟨z, hz⟩ : ∃ z, cur[bi]? = some z := ⟨_, List.getElem?_eq_getElem (by rw [HCL.out]; exact hbi)⟩
          have cy := W.rowCells hy
          have cz := W.rowCells hz
          have m0 : (0 : Int) ≤ (p : Int) := by omega
          have m1 : (p : Int) < (n : Int) := by omega
          have m2 : (0 : Int) ≤ (bi : Int) := by omega
          have m3 : (bi : Int) < (n : Int) := by omega
          obtain ⟨gx, hgx, _, hat⟩ := HS.out.rowAt 0 rfl hn0
          cases hgx
          have d0 := fun z : LaterOf wr => z.cell ((hat _).1 _ cy.1)
          have d1 := fun z : LaterOf wr => z.cell ((hat _).1 _ cy.2)
          clear hat
          obtain ⟨gx, hgx, _, hat⟩ := HS.out.rowAt 0 rfl hn0
          cases hgx
          have e0 := fun z : LaterOf wr => z.cell ((hat _).1 _ cz.1)
          have e1 := fun z : LaterOf wr => z.cell ((hat _).1 _ cz.2)
          clear hat
          cases hc : lt y z with
          | true =>
            have cK := Lib.hid (fun W => fless_is y z true W hc)
            have HB2 : Hid (p = best1 cur bi p) := Lib.hid (by unfold best1; rw [hy, hz]; simp [hc])
            clear hy hz hc
            go_wp2
            refine wp_region_later (by kernel_rfl) (by kernel_rfl) ?_
            repeat (go_big_quiet_step ((go_at_call 34; exact Calls.later (cK.out _))))
            refine wpQuiet_nil ?_; intro x1 hw'; obtain ⟨xq, hw''⟩ := hw'; obtain ⟨xw0, h1⟩ := xq; change x1 = xw0 at hw''; subst hw''
            go_wp2
            go_roundg (2 - 1)
            case measure => omega
            case rel => exact ⟨1, p, by omega, rfl, by go_num, rfl, hcn, Lib.hid (HB2.out.trans (by rw [HB0.out]; rfl)), HS.out.later h1⟩
          | false =>
            have cK := Lib.hid (fun W => fless_is y z false W hc)
            have HB2 : Hid (bi = best1 cur bi p) := Lib.hid (by unfold best1; rw [hy, hz]; simp [hc])
            clear hy hz hc
            go_wp2
            refine wp_region_later (by kernel_rfl) (by kernel_rfl) ?_
            repeat (go_big_quiet_step ((go_at_call 34; exact Calls.later (cK.out _))))
            refine wpQuiet_nil ?_; intro x1 hw'; obtain ⟨xq, hw''⟩ := hw'; obtain ⟨xw0, h1⟩ := xq; change x1 = xw0 at hw''; subst hw''
            go_wp2
            go_roundg (2 - 1)
            case measure => omega
            case rel => exact ⟨1, bi, by omega, rfl, by go_num, rfl, hbi, Lib.hid (HB2.out.trans (by rw [HB0.out]; rfl)), HS.out.later h1⟩
        · have HB2 : Hid (bi = best1 cur bi p) := Lib.hid (by unfold best1; rw [List.getElem?_eq_none (by rw [HCL.out]; omega)])
          have m1 : ¬ p < n := by omega
          go_wp2
          refine wp_region_later (by kernel_rfl) (by kernel_rfl) ?_
          repeat (go_big_quiet_step (fail))
          refine wpQuiet_nil ?_; intro x1 hw'; obtain ⟨xq, hw''⟩ := hw'; obtain ⟨xw0, h1⟩ := xq; change x1 = xw0 at hw''; subst hw''
          go_wp2
          go_roundg (2 - 1)
          case measure => omega
          case rel => exact ⟨1, bi, by omega, rfl, by go_num, rfl, hbi, Lib.hid (HB2.out.trans (by rw [HB0.out]; rfl)), HS.out.later h1⟩
      · have HB0 : Hid (bi = best1 cur k p) := Lib.hid HB.out
        by_cases hcn : q < n
        · obtain ⟨y, hy⟩ : ∃ y, cur[q]? = some y := ⟨_, List.getElem?_eq_getElem (by rw [HCL.out]; exact hcn)⟩
          obtain ⟨z, hz⟩ : ∃ z, cur[bi]? = some z := ⟨_, List.getElem?_eq_getElem (by rw [HCL.out]; exact hbi)⟩
          have cy := W.rowCells hy
          have cz := W.rowCells hz
          have m0 : (0 : Int) ≤ (q : Int) := by omega
          have m1 : (q : Int) < (n : Int) := by omega
          have m2 : (0 : Int) ≤ (bi : Int) := by omega
          have m3 : (bi : Int) < (n : Int) := by omega
          obtain ⟨gx, hgx, _, hat⟩ := HS.out.rowAt 0 rfl hn0
          cases hgx
          have d0 := fun z : LaterOf wr => z.cell ((hat _).1 _ cy.1)
          have d1 := fun z : LaterOf wr => z.cell ((hat _).1 _ cy.2)
          clear hat
          obtain ⟨gx, hgx, _, hat⟩ := HS.out.rowAt 0 rfl hn0
          cases hgx
          have e0 := fun z : LaterOf wr => z.cell ((hat _).1 _ cz.1)
          have e1 := fun z : LaterOf wr => z.cell ((hat _).1 _ cz.2)
          clear hat
          cases hc : lt y z with
          | true =>
            have cK := Lib.hid (fun W => fless_is y z true W hc)
            have HB2 : Hid (q = best1 cur bi q) := Lib.hid (by unfold best1; rw [hy, hz]; simp [hc])
            clear hy hz hc
            go_wp2
            refine wp_region_later (by kernel_rfl) (by kernel_rfl) ?_
            repeat (go_big_quiet_step ((go_at_call 34; exact Calls.later (cK.out _))))
            refine wpQuiet_nil ?_; intro x1 hw'; obtain ⟨xq, hw''⟩ := hw'; obtain ⟨xw0, h1⟩ := xq; change x1 = xw0 at hw''; subst hw''
            go_wp2
            go_roundg (2 - 2)
            case measure => omega
            case rel => exact ⟨2, q, by omega, rfl, by go_num, rfl, hcn, Lib.hid (HB2.out.trans (by rw [HB0.out]; rfl)), HS.out.later h1⟩
          | false =>
            have cK := Lib.hid (fun W => fless_is y z false W hc)
            have HB2 : Hid (bi = best1 cur bi q) := Lib.hid (by unfold best1; rw [hy, hz]; simp [hc])
            clear hy hz hc
            go_wp2
            refine wp_region_later (by kernel_rfl) (by kernel_rfl) ?_
            repeat (go_big_quiet_step ((go_at_call 34; exact Calls.later (cK.out _))))
            refine wpQuiet_nil ?_; intro x1 hw'; obtain ⟨xq, hw''⟩ := hw'; obtain ⟨xw0, h1⟩ := xq; change x1 = xw0 at hw''; subst hw''
            go_wp2
            go_roundg (2 - 2)
            case measure => omega
            case rel => exact ⟨2, bi, by omega, rfl, by go_num, rfl, hbi, Lib.hid (HB2.out.trans (by rw [HB0.out]; rfl)), HS.out.later h1⟩
        · have HB2 : Hid (bi = best1 cur bi q) := Lib.hid (by unfold best1; rw [List.getElem?_eq_none (by rw [HCL.out]; omega)])
          have m1 : ¬ q < n := by omega
          go_wp2
          refine wp_region_later (by kernel_rfl) (by kernel_rfl) ?_
          repeat (go_big_quiet_step (fail))
          refine wpQuiet_nil ?_; intro x1 hw'; obtain ⟨xq, hw''⟩ := hw'; obtain ⟨xw0, h1⟩ := xq; change x1 = xw0 at hw''; subst hw''
          go_wp2
          go_roundg (2 - 2)
          case measure => omega
          case rel => exact ⟨2, bi, by omega, rfl, by go_num, rfl, hbi, Lib.hid (HB2.out.trans (by rw [HB0.out]; rfl)), HS.out.later h1⟩
      · have HBF : Hid (bi = best1 cur (best1 cur k (2 * k + 1)) (2 * k + 2)) := Lib.hid (by have := HB.out; rw [HPQ.out.1, HPQ.out.2] at this; exact this)
        have HN : Hid ((bi = k ∧ lf = cur) ∨ ∃ x y, k < bi ∧ cur[k]? = some x ∧ cur[bi]? = some y ∧ Down ((cur.set k y).set bi x) bi lf) := Lib.hid (by
          rcases best_of_down HD.out (by rw [HCL.out]; exact hk) with ⟨h1, h2⟩ | ⟨b, x, y, h1, h2, h3, h4, h5, h6⟩
          · exact .inl ⟨HBF.out.trans h1, h2⟩
          · obtain rfl : bi = b := HBF.out.trans h1
            exact .inr ⟨x, y, h2, h4, h5, h6⟩)
        clear HB HBF HD f0 f1
        rcases HN.out with ⟨h1, h2⟩ | ⟨x, y, hkb, hx, hy, hr⟩
        · subst h1 h2
          clear HN
          go_wp2
          go_ret
          exact ⟨some ⟨gb, 0, none⟩, c6, hc6, rfl, HS.out.pick [0] (by decide) (by simp)⟩
        · have HR' := Lib.hid hr
          have cx := W.rowCells hx
          have cy := W.rowCells hy
          have ht : ((bi : Int) == (k : Int)) = false := by simp; omega
          have k1 : (k : Int) < (n : Int) := by omega
          have m2 : (0 : Int) ≤ (bi : Int) := by omega
          have m3 : (bi : Int) < (n : Int) := by omega
          clear HN hx hy hr
          go_wp2
          obtain ⟨gx, hgx, _, hat⟩ := HS.out.rowAt 0 rfl hn0
          cases hgx
          have d0 := (hat _).1 _ cx.1
          have d1 := (hat _).1 _ cx.2
          have e0 := (hat _).1 _ cy.1
          have e1 := (hat _).1 _ cy.2
          have u0 := (hat (k * 2)).2.1
          have u1 := (hat (k * 2 + 1)).2.1
          have u2 := (hat (bi * 2)).2.1
          have u3 := (hat (bi * 2 + 1)).2.1
          have K := Lib.hid ((HS.out.elem W.len 0 rfl k (by have := HCL.out; omega) hn0 y).elem W.len 0 rfl bi (by have := HCL.out; rw [List.length_set]; omega) hn0 x)
          clear hat
          go_region
          all_goals
            go_wp2
            go_roundg (n - bi)
            case measure => omega
            case rel => exact ⟨bi, (cur.set k y).set bi x, by omega, rfl, rfl, HR', by simp [HCL.out], (K.out.drew).pick [0] (by decide) (by simp)⟩
end Hp
end Go.Proofs.Ytfljbiobiobamab
