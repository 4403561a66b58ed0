/-
  Walks of heap.Right and of the reference's FRight. Conditions: none.
-/
import Derived.Test.YtakmfjnfkjdbfaaHpW
namespace Go.Proofs.Ytakmfjnfkjdbfaa
open Go.RowKit
set_option linter.unusedVariables false
namespace Hp

theorem bool_no {b : Bool} {p : Prop} (h : b = true ↔ p) (hp : ¬ p) : b = false := by
  cases b with
  | false => rfl
  | true => exact absurd (h.1 rfl) hp
theorem half (m : Nat) : Int.tdiv (m : Int) 2 = ((m / 2 : Nat) : Int) := by
  rw [Int.tdiv_eq_ediv_of_nonneg (by omega)]; omega

set_option maxRecDepth 100000 in
set_option maxHeartbeats 3200000 in
theorem right_is (A : Option Addr) (n c : Nat) (l : List W) (b0 : Bool) (w : World) (hr : Rd w w.heap.size 2 A n (l.flatMap W.cells)) (hl : l.length = n) (hn : n * 16 ≤ 140737488355328) (hb : b0 = true ↔ Rt l) :
    Calls Try.prog 13 #[.slice A n c] w (Ret w (.bool b0)) := by
  have HR := Lib.hid hr
  have HL := Lib.hid hl
  have HBB := Lib.hid hb
  clear hr hl hb
  go_enter Try.func13, Try.ntmps13
  go_wp2
  go_loopg [3] (n - 1) (fun g i wr => ∃ k : Nat, (k + 1 ≤ n ∨ k = 0) ∧ g = n - (k + 1) ∧ i = .int .i64 ((k + 1 : Nat) : Int) ∧ Hid (∀ j x y, 1 ≤ j → j < k + 1 → l[j]? = some x → l[(j - 1) / 2]? = some y → lt x y = false) ∧ Sep w wr [])
  case atStart => exact ⟨0, .inr rfl, rfl, rfl, Lib.hid (fun j x y h h' => by omega), Sep.nil_ w⟩
  case round =>
    obtain ⟨k, hk, rfl, rfl, HI, hs⟩ := hrel
    have HS := Lib.hid hs
    clear hs
    by_cases hlt : k + 1 < n
    · obtain ⟨b, off, rfl, hb, hc⟩ := HR.out.at_ W.len (by omega)
      obtain ⟨x, hx⟩ : ∃ x, l[k + 1]? = some x := ⟨_, List.getElem?_eq_getElem (by rw [HL.out]; exact hlt)⟩
      obtain ⟨y, hy⟩ : ∃ y, l[k / 2]? = some y := ⟨_, List.getElem?_eq_getElem (by rw [HL.out]; omega)⟩
      obtain ⟨d0, d1⟩ := W.facts hb HS.out.below hc hx
      obtain ⟨e0, e1⟩ := W.facts hb HS.out.below hc hy
      have d0' := fun z : LaterOf wr => z.cell d0
      have d1' := fun z : LaterOf wr => z.cell d1
      have e0' := fun z : LaterOf wr => z.cell e0
      have e1' := fun z : LaterOf wr => z.cell e1
      have i0 : (0 : Int) ≤ ((k + 1 : Nat) : Int) := by omega
      have i1 : ((k + 1 : Nat) : Int) < (n : Int) := by omega
      have i2 : ((k + 1 : Nat) : Int) - 1 = (k : Int) := by omega
      have i3 := half k
      have i4 : (0 : Int) ≤ ((k / 2 : Nat) : Int) := by omega
      have i5 : ((k / 2 : Nat) : Int) < (n : Int) := by omega
      have HX := Lib.hid hx
      have HY := Lib.hid hy
      clear hc hx hy d0 d1 e0 e1
      generalize hp : k / 2 = p at i3 i4 i5 HY e0' e1'
      have HP := Lib.hid hp
      clear hp
      cases hc : lt x y with
      | true =>
        obtain rfl : b0 = false := bool_no HBB.out (fun h => by have := h (k + 1) x y (by omega) HX.out (by rw [Nat.add_sub_cancel, HP.out]; exact HY.out); rw [hc] at this; cases this)
        have cK := Lib.hid (fun W => less_is x y true W hc)
        clear hc
        go_wp2
        refine wp_region_later (by kernel_rfl) (by kernel_rfl) ?_
        repeat (go_big_quiet_step ((go_at_call 38; exact Calls.later (cK.out _))))
        refine wpQuiet_nil ?_; intro xw hw'; obtain ⟨xq, hw''⟩ := hw'; obtain ⟨xw0, xh⟩ := xq; change xw = xw0 at hw''; subst hw''
        go_wp2
        go_ret
        exact Ret.mk rfl (HS.out.later xh).below
      | false =>
        have cK := Lib.hid (fun W => less_is x y false W hc)
        have HI2 : Hid (∀ j x y, 1 ≤ j → j < k + 1 + 1 → l[j]? = some x → l[(j - 1) / 2]? = some y → lt x y = false) := Lib.hid (fun j x' y' h1 h2 h3 h4 => by
          by_cases hj : j = k + 1
          · subst hj
            rw [HX.out] at h3; cases h3
            rw [Nat.add_sub_cancel, HP.out, HY.out] at h4; cases h4
            exact hc
          · exact HI.out j x' y' h1 (by omega) h3 h4)
        clear hc
        go_wp2
        refine wp_region_later (by kernel_rfl) (by kernel_rfl) ?_
        repeat (go_big_quiet_step ((go_at_call 38; exact Calls.later (cK.out _))))
        refine wpQuiet_nil ?_; intro xw hw'; obtain ⟨xq, hw''⟩ := hw'; obtain ⟨xw0, xh⟩ := xq; change xw = xw0 at hw''; subst hw''
        go_wp2
        go_roundg (n - (k + 1 + 1))
        case measure => omega
        case rel => exact ⟨k + 1, by omega, rfl, by go_num, HI2, HS.out.later xh⟩
    · obtain rfl : b0 = true := HBB.out.2 (fun j x y h1 h2 h3 => HI.out j x y h1 (by have := (List.getElem?_eq_some_iff.1 h2).1; have := HL.out; omega) h2 h3)
      go_wp2
      go_ret
      exact Ret.mk rfl HS.out.below

set_option maxRecDepth 100000 in
set_option maxHeartbeats 3200000 in
theorem fright_is (A : Option Addr) (n c : Nat) (l : List W) (b0 : Bool) (w : World) (hr : Rd w w.heap.size 2 A n (l.flatMap W.cells)) (hl : l.length = n) (hn : n * 16 ≤ 140737488355328) (hb : b0 = true ↔ Rt l) :
    Calls Try.prog 14 #[.slice A n c] w (Ret w (.bool b0)) := by
  have HR := Lib.hid hr
  have HL := Lib.hid hl
  have HBB := Lib.hid hb
  clear hr hl hb
  go_enter Try.func14, Try.ntmps14
  go_wp2
  go_loopg [9] n (fun g i wr => ∃ k : Nat, k ≤ n ∧ g = n - k ∧ i = .int .i64 k ∧ Hid (∀ c x y, 1 ≤ c → c < 2 * k + 1 → l[c]? = some x → l[(c - 1) / 2]? = some y → lt x y = false) ∧ Sep w wr [])
  case atStart => exact ⟨0, Nat.zero_le _, rfl, rfl, Lib.hid (fun j x y h h' => by omega), Sep.nil_ w⟩
  case round =>
    obtain ⟨k, hk, rfl, rfl, HI, hs⟩ := hrel
    have HS := Lib.hid hs
    clear hs
    by_cases hlt : k < n
    · obtain ⟨b, off, rfl, hb, hc⟩ := HR.out.at_ W.len (by omega)
      obtain ⟨y, hy⟩ : ∃ y, l[k]? = some y := ⟨_, List.getElem?_eq_getElem (by rw [HL.out]; omega)⟩
      obtain ⟨d0, d1⟩ := W.facts hb HS.out.below hc hy
      have i0 : (0 : Int) ≤ (k : Int) := by omega
      have i1 : (k : Int) < (n : Int) := by omega
      obtain ⟨p, q, HPQ⟩ : ∃ p q : Nat, Hid (p = 2 * k + 1 ∧ q = 2 * k + 2) := ⟨_, _, Lib.hid ⟨rfl, rfl⟩⟩
      have i2 : 2 * (k : Int) + 1 = (p : Int) := by have := HPQ.out; omega
      have i3 : 2 * (k : Int) + 2 = (q : Int) := by have := HPQ.out; omega
      have HY := Lib.hid hy
      have HC := Lib.hid hc
      have HS1 := Lib.hid ((HS.out.new 24 y.cells).new 3 [.int .i64 (p : Int), .int .i64 (q : Int)])
      have hsz : (wr.alloc (.cells #[.int .i64 y.id, .int .i64 y.wear] 24)).heap.size = wr.heap.size + 1 := by simp
      simp only [W.cells] at HS1
      rw [hsz] at HS1
      clear hc hy hsz
      go_wp2
      generalize ((wr.alloc (.cells #[.int .i64 y.id, .int .i64 y.wear] 24)).alloc (.cells #[.int .i64 (p : Int), .int .i64 (q : Int)] 3)) = wo at HS1 ⊢
      generalize wr.heap.size = gb at HS1 ⊢
      clear HS d0 d1
      go_loopg [22] 2 (fun g i wr => ∃ m : Nat, m ≤ 2 ∧ g = 2 - m ∧ i = .int .i64 m ∧ Hid (∀ c x y, 1 ≤ c → c < 2 * k + 1 + m → l[c]? = some x → l[(c - 1) / 2]? = some y → lt x y = false) ∧ Sep w wr [.cells gb 24 [.int .i64 y.id, .int .i64 y.wear], .cells (gb + 1) 3 [.int .i64 (p : Int), .int .i64 (q : Int)]])
      case atStart => exact ⟨0, by omega, rfl, rfl, HI, HS1.out⟩
      case round =>
        clear HS1 wo HI
        obtain ⟨m, hm, rfl, rfl, HI, hs⟩ := hrel
        have HS := Lib.hid hs
        clear hs
        have d0 := fun z : LaterOf wr => z.cell (HS.out.cell 0 rfl (k := 0) rfl)
        have d1 := fun z : LaterOf wr => z.cell (HS.out.cell 0 rfl (k := 1) rfl)
        have f0 := HS.out.cell 1 rfl (k := 0) rfl
        have f1 := HS.out.cell 1 rfl (k := 1) rfl
        rcases (show m = 0 ∨ m = 1 ∨ m = 2 by omega) with rfl | rfl | rfl
        · by_cases hcn : p < n
          · obtain ⟨x, hx⟩ : ∃ x, l[p]? = some x := ⟨_, List.getElem?_eq_getElem (by rw [HL.out]; exact hcn)⟩
            obtain ⟨e0, e1⟩ := W.facts hb HS.out.below HC.out hx
            have e0' := fun z : LaterOf wr => z.cell e0
            have e1' := fun z : LaterOf wr => z.cell e1
            have m0 : (0 : Int) ≤ ((p : Nat) : Int) := by omega
            have m1 : ((p : Nat) : Int) < (n : Int) := by omega
            clear e0 e1
            cases hc : lt x y with
            | true =>
              obtain rfl : b0 = false := bool_no HBB.out (fun h => by have := h (p) x y (by have := HPQ.out; omega) hx (by rw [show (p - 1) / 2 = k by have := HPQ.out; omega]; exact HY.out); rw [hc] at this; cases this)
              have cK := Lib.hid (fun W => fless_is x y true W hc)
              clear hx hc
              go_wp2
              refine wp_region_later (by kernel_rfl) (by kernel_rfl) ?_
              repeat (go_big_quiet_step ((go_at_call 39; exact Calls.later (cK.out _))))
              refine wpQuiet_nil ?_; intro xw hw'; obtain ⟨xq, hw''⟩ := hw'; obtain ⟨xw0, xh⟩ := xq; change xw = xw0 at hw''; subst hw''
              go_wp2
              go_ret
              exact Ret.mk rfl (HS.out.later xh).below
            | false =>
              have cK := Lib.hid (fun W => fless_is x y false W hc)
              have HI2 : Hid (∀ c x y, 1 ≤ c → c < 2 * k + 1 + 1 → l[c]? = some x → l[(c - 1) / 2]? = some y → lt x y = false) := Lib.hid (fun c' x' y' h1 h2 h3 h4 => by
                by_cases hcc : c' = p
                · rw [hcc] at h3 h4
                  rw [hx] at h3; cases h3
                  rw [show (p - 1) / 2 = k by (have := HPQ.out; omega), HY.out] at h4; cases h4
                  exact hc
                · exact HI.out c' x' y' h1 (by have := HPQ.out; omega) h3 h4)
              clear hx hc
              go_wp2
              refine wp_region_later (by kernel_rfl) (by kernel_rfl) ?_
              repeat (go_big_quiet_step ((go_at_call 39; exact Calls.later (cK.out _))))
              refine wpQuiet_nil ?_; intro xw hw'; obtain ⟨xq, hw''⟩ := hw'; obtain ⟨xw0, xh⟩ := xq; change xw = xw0 at hw''; subst hw''
              go_wp2
              go_roundg (2 - 1)
              case measure => omega
              case rel => exact ⟨1, by omega, rfl, by go_num, HI2, HS.out.later xh⟩
          · have HI2 : Hid (∀ c x y, 1 ≤ c → c < 2 * k + 1 + 1 → l[c]? = some x → l[(c - 1) / 2]? = some y → lt x y = false) := Lib.hid (fun c' x' y' h1 h2 h3 h4 => by
              have := (List.getElem?_eq_some_iff.1 h3).1
              have := HL.out
              exact HI.out c' x' y' h1 (by have := HPQ.out; omega) h3 h4)
            have m1 : ¬ ((p : Nat) : Int) < (n : Int) := by omega
            go_wp2
            refine wp_region_later (by kernel_rfl) (by kernel_rfl) ?_
            repeat (go_big_quiet_step (fail))
            refine wpQuiet_nil ?_; intro xw hw'; obtain ⟨xq, hw''⟩ := hw'; obtain ⟨xw0, xh⟩ := xq; change xw = xw0 at hw''; subst hw''
            go_wp2
            go_roundg (2 - 1)
            case measure => omega
            case rel => exact ⟨1, by omega, rfl, by go_num, HI2, HS.out.later xh⟩
        · by_cases hcn : q < n
          · obtain ⟨x, hx⟩ : ∃ x, l[q]? = some x := ⟨_, List.getElem?_eq_getElem (by rw [HL.out]; exact hcn)⟩
            obtain ⟨e0, e1⟩ := W.facts hb HS.out.below HC.out hx
            have e0' := fun z : LaterOf wr => z.cell e0
            have e1' := fun z : LaterOf wr => z.cell e1
            have m0 : (0 : Int) ≤ ((q : Nat) : Int) := by omega
            have m1 : ((q : Nat) : Int) < (n : Int) := by omega
            clear e0 e1
            cases hc : lt x y with
            | true =>
              obtain rfl : b0 = false := bool_no HBB.out (fun h => by have := h (q) x y (by have := HPQ.out; omega) hx (by rw [show (q - 1) / 2 = k by have := HPQ.out; omega]; exact HY.out); rw [hc] at this; cases this)
              have cK := Lib.hid (fun W => fless_is x y true W hc)
              clear hx hc
              go_wp2
              refine wp_region_later (by kernel_rfl) (by kernel_rfl) ?_
              repeat (go_big_quiet_step ((go_at_call 39; exact Calls.later (cK.out _))))
              refine wpQuiet_nil ?_; intro xw hw'; obtain ⟨xq, hw''⟩ := hw'; obtain ⟨xw0, xh⟩ := xq; change xw = xw0 at hw''; subst hw''
              go_wp2
              go_ret
              exact Ret.mk rfl (HS.out.later xh).below
            | false =>
              have cK := Lib.hid (fun W => fless_is x y false W hc)
              have HI2 : Hid (∀ c x y, 1 ≤ c → c < 2 * k + 1 + 2 → l[c]? = some x → l[(c - 1) / 2]? = some y → lt x y = false) := Lib.hid (fun c' x' y' h1 h2 h3 h4 => by
                by_cases hcc : c' = q
                · rw [hcc] at h3 h4
                  rw [hx] at h3; cases h3
                  rw [show (q - 1) / 2 = k by (have := HPQ.out; omega), HY.out] at h4; cases h4
                  exact hc
                · exact HI.out c' x' y' h1 (by have := HPQ.out; omega) h3 h4)
              clear hx hc
              go_wp2
              refine wp_region_later (by kernel_rfl) (by kernel_rfl) ?_
              repeat (go_big_quiet_step ((go_at_call 39; exact Calls.later (cK.out _))))
              refine wpQuiet_nil ?_; intro xw hw'; obtain ⟨xq, hw''⟩ := hw'; obtain ⟨xw0, xh⟩ := xq; change xw = xw0 at hw''; subst hw''
              go_wp2
              go_roundg (2 - 2)
              case measure => omega
              case rel => exact ⟨2, by omega, rfl, by go_num, HI2, HS.out.later xh⟩
          · have HI2 : Hid (∀ c x y, 1 ≤ c → c < 2 * k + 1 + 2 → l[c]? = some x → l[(c - 1) / 2]? = some y → lt x y = false) := Lib.hid (fun c' x' y' h1 h2 h3 h4 => by
              have := (List.getElem?_eq_some_iff.1 h3).1
              have := HL.out
              exact HI.out c' x' y' h1 (by have := HPQ.out; omega) h3 h4)
            have m1 : ¬ ((q : Nat) : Int) < (n : Int) := by omega
            go_wp2
            refine wp_region_later (by kernel_rfl) (by kernel_rfl) ?_
            repeat (go_big_quiet_step (fail))
            refine wpQuiet_nil ?_; intro xw hw'; obtain ⟨xq, hw''⟩ := hw'; obtain ⟨xw0, xh⟩ := xq; change xw = xw0 at hw''; subst hw''
            go_wp2
            go_roundg (2 - 2)
            case measure => omega
            case rel => exact ⟨2, by omega, rfl, by go_num, HI2, HS.out.later xh⟩
        · go_wp2
          go_roundg (n - (k + 1))
          case measure => omega
          case rel => exact ⟨k + 1, by omega, rfl, by go_num, Lib.hid (fun c' x' y' h1 h2 h3 h4 => HI.out c' x' y' h1 (by omega) h3 h4), HS.out.pick [] (by decide) (by simp)⟩
    · obtain rfl : b0 = true := HBB.out.2 (fun j x y h1 h2 h3 => HI.out j x y h1 (by have := (List.getElem?_eq_some_iff.1 h2).1; have := HL.out; omega) h2 h3)
      go_wp2
      go_ret
      exact Ret.mk rfl HS.out.below
end Hp
end Go.Proofs.Ytakmfjnfkjdbfaa
