/-
  Walks of bad.check, Number and Mark. Conditions: none.
-/
import Derived.Test.YtakmfjnfkjdbfabBdW2
namespace Go.Proofs.Ytakmfjnfkjdbfab
open Go.RowKit
set_option linter.unusedVariables false
namespace Bd

set_option maxRecDepth 100000 in
set_option maxHeartbeats 1600000 in
theorem check_any (A : Option Addr) (n c : Nat) (B x at' e : Int) (is : Bool) (l : List Int) (w : World) (hr : Rd w w.heap.size 1 A n (l.flatMap icell)) (hl : l.length = n) (hn : n ≤ 9223372036854775807)
    (hx : (rightB B l = false ∧ at' = 0 ∧ is = false ∧ e = 1) ∨ (rightB B l = true ∧ (x < 0 ∨ B ≤ x) ∧ at' = 0 ∧ is = false ∧ e = 2) ∨ (rightB B l = true ∧ 0 ≤ x ∧ x < B ∧ at' = (cnt l x : Nat) ∧ is = l.contains x ∧ e = 0)) :
    Calls Try.prog 60 #[.int .i64 B, .slice A n c, .int .i64 x] w (Ret w (.tuple #[.int .i64 at', .bool is, .int .i64 e])) := by
  have cR := Lib.hid (right_is A n c B l w hr hl hn)
  have HR := Lib.hid hr
  have HL := Lib.hid hl
  clear hr hl
  rcases hx with ⟨h1, rfl, rfl, rfl⟩ | ⟨h1, h2, rfl, rfl, rfl⟩ | ⟨h1, h2, h3, rfl, rfl, rfl⟩
  · rw [h1] at cR
    go_enter Try.func60, Try.ntmps60
    go_wp2_with fail
    refine cR.out.mono ?_; rintro en w1 ⟨rfl, hb1⟩
    go_wp2
    refine bodyPost_ret (v := .tuple #[.int .i64 0, .bool false, .int .i64 1]) (by simp [results, Try.results60]) rfl ?_
    exact Ret.mk rfl hb1
  · rw [h1] at cR
    by_cases h3 : x < 0
    all_goals
      try have h4 : B ≤ x := by omega
      clear h1 h2
      go_enter Try.func60, Try.ntmps60
      go_wp2_with fail
      refine cR.out.mono ?_; rintro en w1 ⟨rfl, hb1⟩
      go_wp2
      refine bodyPost_ret (v := .tuple #[.int .i64 0, .bool false, .int .i64 2]) (by simp [results, Try.results60]) rfl ?_
      exact Ret.mk rfl hb1
  · obtain ⟨K, hBK, hK, hp, hll, hlk, hgl⟩ := right_facts h1
    have cB := Lib.hid (fun V (hV : Below w.heap.size w V) => bs_any A n c l x V (HR.out.later hV) HL.out (by have := HL.out; omega) hp)
    rw [h1] at cR
    generalize cnt l x = at0 at cB ⊢
    generalize l.contains x = is0 at cB ⊢
    have m1 : ¬ x < 0 := by omega
    have m2 : ¬ B ≤ x := by omega
    clear h1 hp hBK hll hgl
    go_enter Try.func60, Try.ntmps60
    go_wp2_with fail
    refine cR.out.mono ?_; rintro en w1 ⟨rfl, hb1⟩
    go_wp2_with fail
    refine (cB.out _ hb1).mono ?_; rintro en w2 ⟨rfl, hb2⟩
    go_wp2
    refine bodyPost_ret (v := .tuple #[.int .i64 (at0 : Int), .bool is0, .int .i64 0]) (by simp [results, Try.results60]) rfl ?_
    exact Ret.mk rfl (hb1.trans (hb2.mono hb1.size))
end Bd
end Go.Proofs.Ytakmfjnfkjdbfab
