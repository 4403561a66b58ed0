/-
  Worlds that part in some blocks alone. Conditions: none.
-/
import Derived.Test.YtcndddjnlnigeaaBlk
namespace Go.Proofs.Ytcndddjnlnigeaa
open Go.RowKit
set_option linter.unusedVariables false

/-- w' is w with new blocks and turns in the blocks that S names -/
structure Turns (S : Nat → Prop) (w w' : World) : Prop where
  os : w'.os = w.os
  tape : w'.tape = w.tape
  output : w'.output = w.output
  size : w.heap.size ≤ w'.heap.size
  block : ∀ k, k < w.heap.size → ¬ S k → w'.heap[k]? = w.heap[k]?
section
variable {S : Nat → Prop} {w w1 w2 : World}
theorem Turns.refl (S : Nat → Prop) (w : World) : Turns S w w := ⟨rfl, rfl, rfl, Nat.le_refl _, fun _ _ _ => rfl⟩
theorem Turns.later (h : Below w.heap.size w w1) : Turns S w w1 := ⟨h.os, h.tape, h.output, h.size, fun k hk _ => h.block k hk⟩
theorem Turns.trans (h : Turns S w w1) (h' : Turns S w1 w2) : Turns S w w2 :=
  ⟨h'.os.trans h.os, h'.tape.trans h.tape, h'.output.trans h.output, Nat.le_trans h.size h'.size, fun k hk hn => (h'.block k (Nat.lt_of_lt_of_le hk h.size) hn).trans (h.block k hk hn)⟩
theorem Turns.set (h : Turns S w w1) {g k : Nat} (hg : S g) (v : Value) : Turns S w (w1.setCell ⟨g, k, none⟩ v) :=
  h.trans ⟨rfl, rfl, rfl, by simp, fun i hi hn => Below.heap_setCell w1 _ v i (fun e => hn (by rw [e]; exact hg))⟩
theorem Turns.below {B : Nat} {w0 : World} (h : Turns S w w1) (hb : Below B w0 w) (hS : ∀ k, S k → B ≤ k) (hB : B ≤ w.heap.size) : Below B w0 w1 :=
  ⟨h.os.trans hb.os, h.tape.trans hb.tape, h.output.trans hb.output, Nat.le_trans hb.size h.size, fun k hk => (h.block k (Nat.lt_of_lt_of_le hk hB) (fun hs => by have := hS k hs; omega)).trans (hb.block k hk)⟩
theorem Turns.blk {g t : Nat} {l : List Value} (h : Turns S w w1) (hg : Blk w g t l) (hn : ¬ S g) : Blk w1 g t l := by
  unfold Blk
  rw [h.block g hg.lt hn]
  exact hg
theorem Turns.own {base E size n : Nat} {v : Value} {xs : List Value} (h : Turns S w w1) (ho : w.ownsRow base E size v n xs) (hn : ∀ k, base ≤ k → ¬ S k) : w1.ownsRow base E size v n xs := by
  obtain ⟨h1, h2⟩ := ho
  refine ⟨h1, ?_⟩
  rcases h2 with h2 | ⟨g, cap, cur, hv, hg, hh, r⟩
  · exact .inl h2
  · refine .inr ⟨g, cap, cur, hv, hg, ?_, r⟩
    have hlt : g < w.heap.size := by
      rcases Nat.lt_or_ge g w.heap.size with h3 | h3
      · exact h3
      · rw [Array.getElem?_eq_none h3] at hh; cases hh
    rw [h.block g hlt (hn g hg)]
    exact hh
end
end Go.Proofs.Ytcndddjnlnigeaa
