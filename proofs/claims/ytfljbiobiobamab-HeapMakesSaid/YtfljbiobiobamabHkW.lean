/-
  Walks of heap.Make and of the reference's FMake. Conditions: none.
-/
import Derived.Test.YtfljbiobiobamabHkM
import Derived.Test.YtfljbiobiobamabHpW4
import Derived.Lib.SliceRun
namespace Go.Proofs.Ytfljbiobiobamab
open Go.RowKit
set_option linter.unusedVariables false
namespace Hp

set_option maxHeartbeats 800000 in
theorem clone_any (A : Option Addr) (n c : Nat) (xs : List Value) (w : World) (hr : Rd w w.heap.size 2 A n xs) (h1 : ∀ u ∈ xs, u.oneCell' = true) (hn : n * 16 ≤ 140737488355328) (hm : n ≤ 9223372036854775807) :
    Calls Try.prog 26 #[.slice A n c] w (SliceRet w 25 2 n xs) := by
  obtain ⟨ti, hti, t0, t1, t2⟩ := info_parts worn_info
  have HR := Lib.hid hr
  have H1 := Lib.hid h1
  have hnil : ∀ w, (binOp .eql 22 (.slice A n c) (.slice none 0 0)).run Try.prog w = .ok (.bool A.isNone) w := fun w => Lib.run_eql_slice_nil w 22 25 A n c 0 0 Try.underlying22
  clear hr h1
  cases A with
  | none =>
    obtain rfl : n = 0 := by
      rcases Nat.eq_zero_or_pos n with h | h
      · exact h
      · obtain ⟨b, off, hA, _⟩ := HR.out.2 h; cases hA
    obtain rfl : xs = [] := List.eq_nil_of_length_eq_zero (by have := HR.out.1; omega)
    have hnil' : ∀ w, (binOp .eql 22 (.slice none 0 c) (.slice none 0 0)).run Try.prog w = .ok (.bool true) w := hnil
    clear hnil
    go_enter Try.func26, Try.ntmps26
    go_wp2
    go_ret
    exact ⟨none, 0, Nat.le_refl _, rfl, (Sep.nil_ w).nilRow 25 2 none⟩
  | some a =>
    have hnil' : ∀ w, (binOp .eql 22 (.slice (some a) n c) (.slice none 0 0)).run Try.prog w = .ok (.bool false) w := hnil
    clear hnil
    have HS0 : Hid (Sep w (w.alloc (.cells #[] 25)) [.row 25 2 (.slice (some ⟨w.heap.size, 0, none⟩) 0 0) 0 []]) := Lib.hid (((Sep.nil_ w).alloc _).nilRow 25 2 _)
    have HRs := Lib.hid (HR.out.later HS0.out.below)
    go_enter Try.func26, Try.ntmps26
    go_wp2_with (at_builtin; refine wpList_append_sep HS0.out 0 rfl (.tmp 5) (.tmp 6) 22 rfl 25 ti (.agg #[.int .i64 0, .int .i64 0]) 2 16 Try.underlying22 hti t0 t1 t2 rfl (by omega) _ 0 _ rfl rfl _ _ n c _ rfl HRs.out H1.out (by simp only [maxLen]; omega) (by omega) ?_; intro A6 c6 w3 hc6 hs3 HA)
    go_ret
    simp only [Nat.zero_add, List.nil_append] at HA hc6 ⊢
    exact ⟨A6, c6, hc6, rfl, HA⟩

theorem half_ (m : Nat) : Int.tdiv (m : Int) 2 = ((m / 2 : Nat) : Int) := by
  rw [Int.tdiv_eq_ediv_of_nonneg (by omega)]; omega
set_option maxRecDepth 100000 in
set_option maxHeartbeats 1600000 in
theorem make_any (A : Option Addr) (n c : Nat) (l lf : List W) (w : World) (hr : Rd w w.heap.size 2 A n (l.flatMap W.cells)) (hl : l.length = n) (hn : n * 16 ≤ 140737488355328) (hm : Mk l (n / 2) lf) :
    Calls Try.prog 8 #[.slice A n c] w (SliceRet w 25 2 n (lf.flatMap W.cells)) := by
  have cC := Lib.hid (clone_any A n c (l.flatMap W.cells) w hr (W.one l) hn (by omega))
  have HL := Lib.hid hl
  obtain ⟨h, HH⟩ : ∃ h, Hid (h = n / 2) := ⟨_, Lib.hid rfl⟩
  have HM : Hid (Mk l h lf) := Lib.hid (by rw [HH.out]; exact hm)
  have hd : Int.tdiv (n : Int) 2 = (h : Int) := by rw [HH.out]; exact half_ n
  have hhn : h ≤ n := by have := HH.out; omega
  clear hr hl hm
  go_enter Try.func8, Try.ntmps8
  go_wp2_with fail
  refine cC.out.mono ?_; rintro en w1 ⟨A5, c5, hc5, rfl, K5⟩
  have H0 := Lib.hid K5
  clear cC K5
  go_wp2
  go_loopg [4] h (fun g i wr => ∃ (v : Int) (cur : List W), i = .int .i64 v ∧ Hid (v = (g : Int) - 1) ∧ g ≤ n ∧ Hid (Mk cur g lf) ∧ Hid (cur.length = n) ∧ Sep w wr [.row 25 2 (.slice A5 n c5) n (cur.flatMap W.cells)])
  case atStart => exact ⟨_, l, rfl, Lib.hid rfl, hhn, HM, HL, H0.out⟩
  case round =>
    clear H0 HM HL
    obtain ⟨v, cur, rfl, HV, hg, HK, HCL, hs⟩ := hrel
    have HS := Lib.hid hs
    clear hs
    cases gk with
    | zero =>
      obtain rfl : v = -1 := by have := HV.out; omega
      have HE : Hid (lf = cur) := Lib.hid (by have := HK.out; cases this; rfl)
      go_wp2
      go_ret
      exact ⟨A5, c5, hc5, rfl, by rw [HE.out]; exact HS.out⟩
    | succ j =>
      obtain rfl : v = (j : Int) := by have := HV.out; omega
      obtain ⟨l1, h1, h2, h3⟩ : ∃ l1, Hid (Down cur j l1) ∧ Hid (l1.length = n) ∧ Hid (Mk l1 j lf) := by
        have := HK.out
        cases this with
        | step a b r => exact ⟨_, Lib.hid a, Lib.hid (by rw [b]; exact HCL.out), Lib.hid r⟩
      have j0 : (0 : Int) ≤ (j : Int) := by omega
      go_wp2_with fail
      refine (down_any A5 n c5 j cur l1 w wr [] HS.out HCL.out hn (by omega) h1.out).mono ?_
      rintro en w2 ⟨rfl, K2⟩
      have HS2 := Lib.hid K2
      clear K2 HS
      go_wp2
      go_roundg j
      case measure => omega
      case rel => exact ⟨_, l1, rfl, Lib.hid rfl, by omega, h3, h2, HS2.out⟩

set_option maxRecDepth 100000 in
set_option maxHeartbeats 1600000 in
theorem fmake_any (A : Option Addr) (n c : Nat) (l lf : List W) (w : World) (hr : Rd w w.heap.size 2 A n (l.flatMap W.cells)) (hl : l.length = n) (hn : n * 16 ≤ 140737488355328) (hm : Mk l n lf) :
    Calls Try.prog 9 #[.slice A n c] w (SliceRet w 25 2 n (lf.flatMap W.cells)) := by
  obtain ⟨ti, hti, t0, t1, t2⟩ := info_parts worn_info
  have HR := Lib.hid hr
  have HL := Lib.hid hl
  have HM := Lib.hid hm
  clear hr hl hm
  have HS0 : Hid (Sep w (w.alloc (.cells #[] 25)) [.row 25 2 (.slice (some ⟨w.heap.size, 0, none⟩) 0 0) 0 []]) := Lib.hid (((Sep.nil_ w).alloc _).nilRow 25 2 _)
  have HRs := Lib.hid (HR.out.later HS0.out.below)
  go_enter Try.func9, Try.ntmps9
  go_wp2_with (at_builtin; refine wpList_append_sep HS0.out 0 rfl (.tmp 5) (.tmp 6) 22 rfl 25 ti (.agg #[.int .i64 0, .int .i64 0]) 2 16 Try.underlying22 hti t0 t1 t2 rfl (by omega) _ 0 _ rfl rfl _ _ n c _ rfl HRs.out (W.one l) (by simp only [maxLen]; omega) (by omega) ?_; intro A6 c6 w3 hc6 hs3 HA'; have HA := Lib.hid HA'; clear HA')
  simp only [Nat.zero_add, List.nil_append] at HA hc6 ⊢
  go_loopg [3, 4] n (fun g v3 i wr => ∃ (v : Int) (cur : List W) (A3 : Option Addr) (c3 : Nat), v3 = .slice A3 n c3 ∧ n ≤ c3 ∧ i = .int .i64 v ∧ Hid (v = (g : Int) - 1) ∧ g ≤ n ∧ Hid (Mk cur g lf) ∧ Hid (cur.length = n) ∧ Sep w wr [.row 25 2 (.slice A3 n c3) n (cur.flatMap W.cells)])
  case atStart => exact ⟨_, l, A6, c6, rfl, hc6, rfl, Lib.hid rfl, Nat.le_refl _, HM, HL, HA.out⟩
  case round =>
    clear HA HM HL HS0 HRs HR
    obtain ⟨v, cur, A3, c3, rfl, hc3, rfl, HV, hg, HK, HCL, hs⟩ := hrel
    have HS := Lib.hid hs
    clear hs
    cases gk with
    | zero =>
      obtain rfl : v = -1 := by have := HV.out; omega
      have HE : Hid (lf = cur) := Lib.hid (by have := HK.out; cases this; rfl)
      go_wp2
      go_ret
      exact ⟨A3, c3, hc3, rfl, by rw [HE.out]; exact HS.out⟩
    | succ j =>
      obtain rfl : v = (j : Int) := by have := HV.out; omega
      obtain ⟨l1, h1, h2, h3⟩ : ∃ l1, Hid (Down cur j l1) ∧ Hid (l1.length = n) ∧ Hid (Mk l1 j lf) := by
        have := HK.out
        cases this with
        | step a b r => exact ⟨_, Lib.hid a, Lib.hid (by rw [b]; exact HCL.out), Lib.hid r⟩
      have j0 : (0 : Int) ≤ (j : Int) := by omega
      go_wp2_with fail
      refine (fdown_any A3 n c3 j cur l1 wr (HS.out.rd 0 rfl) HCL.out hn (by omega) h1.out).mono ?_
      rintro en w2 ⟨A4, c4, hc4, rfl, K2⟩
      have HS2 := Lib.hid ((HS.out.join K2).pick [1] (by decide) (by simp))
      clear K2 HS
      go_wp2
      go_roundg j
      case measure => omega
      case rel => exact ⟨_, l1, A4, c4, rfl, hc4, rfl, Lib.hid rfl, by omega, h3, h2, HS2.out⟩
end Hp
end Go.Proofs.Ytfljbiobiobamab
