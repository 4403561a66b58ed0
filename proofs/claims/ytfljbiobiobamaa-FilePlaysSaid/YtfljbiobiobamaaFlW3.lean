/-
  Walk of file.check. Conditions: none beyond each theorem's own premises.
-/
import Derived.Test.YtfljbiobiobamaaFlW
namespace Go.Proofs.Ytfljbiobiobamaa
open Go.RowKit
set_option linter.unusedVariables false
namespace Fl

/-- an operation as a value; its data lies in memory -/
def O.val (o : O) (A : Option Addr) (n c : Nat) : Value := .agg #[.int .i64 o.kind, .int .i64 o.at_, .int .i64 o.many, .slice A n c]
theorem way_err {s s1 : Sf} {o : O} {a : An} (h : Way 5 2 s o a s1) :
    (a.err = 5 ∧ ¬ o.kind = 1 ∧ ¬ o.kind = 2 ∧ ¬ o.kind = 3) ∨ (a.err = 2 ∧ o.kind = 1 ∧ (o.at_ < 0 ∨ o.at_ + o.data.length > 4096)) ∨ (a.err = 0 ∧ o.kind = 1 ∧ 0 ≤ o.at_ ∧ o.at_ + o.data.length ≤ 4096) ∨
    (a.err = 2 ∧ o.kind = 2 ∧ (o.at_ < 0 ∨ o.many < 0)) ∨ (a.err = 0 ∧ o.kind = 2 ∧ 0 ≤ o.at_ ∧ 0 ≤ o.many) ∨ (a.err = 2 ∧ o.kind = 3 ∧ (o.many < 0 ∨ o.many > 4096)) ∨ (a.err = 0 ∧ o.kind = 3 ∧ 0 ≤ o.many ∧ o.many ≤ 4096) := by
  cases h with
  | kind h => exact .inl ⟨rfl, by omega, by omega, by omega⟩
  | wbad h h' => exact .inr (.inl ⟨rfl, h, h'⟩)
  | write a h h' h'' => exact .inr (.inr (.inl ⟨rfl, h, by omega, by omega⟩))
  | rbad h h' => exact .inr (.inr (.inr (.inl ⟨rfl, h, h'⟩)))
  | read a m h h' h'' => exact .inr (.inr (.inr (.inr (.inl ⟨rfl, h, by omega, by omega⟩))))
  | cbad h h' => exact .inr (.inr (.inr (.inr (.inr (.inl ⟨rfl, h, h'⟩)))))
  | cut n h h' h'' => exact .inr (.inr (.inr (.inr (.inr (.inr ⟨rfl, h, by omega, by omega⟩)))))

set_option maxRecDepth 100000 in
set_option maxHeartbeats 1600000 in
theorem check_any {s s1 : Sf} (k a m : Int) (ds : List Nat) {r : An} (A : Option Addr) (n c : Nat) (w : World) (hw : Way 5 2 s ⟨k, a, m, ds⟩ r s1) (hl : ds.length = n) (hn : n ≤ 9223372036854775807) :
    Calls Try.prog 30 #[(O.val ⟨k, a, m, ds⟩ A n c)] w (Ret w (.int .i64 r.err)) := by
  have HS : Hid (Sep w (w.alloc (.cells #[.int .i64 k, .int .i64 a, .int .i64 m, .slice A n c] 77)) [.cells w.heap.size 77 [.int .i64 k, .int .i64 a, .int .i64 m, .slice A n c]]) := Lib.hid ((Sep.nil_ w).new 77 [.int .i64 k, .int .i64 a, .int .i64 m, .slice A n c])
  have hE := way_err hw
  simp only [hl] at hE
  obtain ⟨err, HER⟩ : ∃ err, Hid (err = r.err) := ⟨_, Lib.hid rfl⟩
  rw [← HER.out] at hE ⊢
  unfold O.val
  simp only
  clear hw hl
  go_enter Try.func30, Try.ntmps30
  go_upto_region 1 with (fail)
  generalize w.alloc (.cells #[.int .i64 k, .int .i64 a, .int .i64 m, .slice A n c] 77) = u0 at HS ⊢
  generalize w.heap.size = g at HS ⊢
  have f0 := HS.out.cell 0 rfl (k := 0) rfl
  have f1 := HS.out.cell 0 rfl (k := 1) rfl
  have f2 := HS.out.cell 0 rfl (k := 2) rfl
  have f3 := HS.out.cell 0 rfl (k := 3) rfl
  rcases hE with ⟨rfl, h1, h2, h3⟩ | ⟨rfl, rfl, h⟩ | ⟨rfl, rfl, h, h'⟩ | ⟨rfl, rfl, h⟩ | ⟨rfl, rfl, h, h'⟩ | ⟨rfl, rfl, h⟩ | ⟨rfl, rfl, h, h'⟩
  · have b1 : (k == 1) = false := by simpa using h1
    have b2 : (k == 2) = false := by simpa using h2
    have b3 : (k == 3) = false := by simpa using h3
    go_wp2
    go_ret
    exact Ret.mk rfl HS.out.below
  · by_cases ha : a < 0
    · go_wp2
      go_ret
      exact Ret.mk rfl HS.out.below
    · by_cases hc : (n : Int) > 4096
      · go_wp2
        go_ret
        exact Ret.mk rfl HS.out.below
      · have hd : a > 4096 - (n : Int) := by omega
        go_wp2
        go_ret
        exact Ret.mk rfl HS.out.below
  · have ha : ¬ a < 0 := by omega
    have hc : ¬ (n : Int) > 4096 := by omega
    have hd : ¬ a > 4096 - (n : Int) := by omega
    go_wp2
    go_ret
    exact Ret.mk rfl HS.out.below
  · by_cases ha : a < 0
    · go_wp2
      go_ret
      exact Ret.mk rfl HS.out.below
    · have hm : m < 0 := by omega
      go_wp2
      go_ret
      exact Ret.mk rfl HS.out.below
  · have ha : ¬ a < 0 := by omega
    have hm : ¬ m < 0 := by omega
    go_wp2
    go_ret
    exact Ret.mk rfl HS.out.below
  · by_cases hm : m < 0
    · go_wp2
      go_ret
      exact Ret.mk rfl HS.out.below
    · have hc : m > 4096 := by omega
      go_wp2
      go_ret
      exact Ret.mk rfl HS.out.below
  · have hm : ¬ m < 0 := by omega
    have hc : ¬ m > 4096 := by omega
    go_wp2
    go_ret
    exact Ret.mk rfl HS.out.below
end Fl
end Go.Proofs.Ytfljbiobiobamaa
