/-
  A part of a slice, s[l:h]. Conditions: none beyond the theorem's own premises.
-/
import Derived.Test.YtgfldhdmdeeknaaGreatDoorBase
namespace Go.Proofs.YtgfldhdmdeeknaaGreatDoor
open Go.RowKit
set_option linter.unusedVariables false
theorem rd_part {P : Program} {t e : TypeId} {C : Nat} (ht' : P.underlying t = some (.slice e)) (hC : ∀ w, (sizeOf e).run P w = .ok C w) {w : World} {B n c l h : Nat} {A : Option Addr} {xs : List Value} (hr : Rd w B C A n xs) (hlh : l ≤ h) (hh : h ≤ n) (hc : n ≤ c) :
    ∃ A', (∀ w', (Instr.slice t (.slice A n c) (some (.int .i64 (l : Int))) (some (.int .i64 (h : Int))) none).run P w' = .ok (.slice A' (h - l) (c - l)) w') ∧ ∀ w', (∀ p : Addr, p.block < B → w'.cell? p = w.cell? p) → Rd w' B C A' (h - l) ((xs.take (h * C)).drop (l * C)) := by
  have he : P.elem t = e := by unfold Program.elem; rw [ht']
  have ht : P.underlying t = some (.slice (P.elem t)) := by rw [he]; exact ht'
  refine ⟨fromAddr A c l C, fun w' => ?_, fun w' hk => ?_⟩
  · rw [run_slice_lh w' t A n c ht .i64 .i64 (l : Int) (h : Int) (by omega) (by omega) (by omega), he, hC]
    simp [Result.andThen, sliced, fromAddr]
  · have h1 := rd_fromAddr (c := c) (rd_upto (hr.keep hk) hh) hlh (by omega)
    exact h1
end Go.Proofs.YtgfldhdmdeeknaaGreatDoor
