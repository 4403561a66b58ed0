/-
  Worlds that have only grown: some draws, some new blocks behind; regions that draw their order in that class. Conditions: none beyond each theorem's own premises.
-/
import Derived.Test.YtfljbiobiobamabTail
import Derived.Sort.Grow
namespace Go.Proofs.Ytfljbiobiobamab
open Go.RowKit Go.Sort
set_option linter.unusedVariables false

def Gr (w w' : World) : Prop := ∃ q os, w' = grow (w.drewN q) os
theorem Gr.refl (w : World) : Gr w w := ⟨0, #[], by rw [grow_empty]; rfl⟩
theorem Gr.trans {a b c : World} (h : Gr a b) (k : Gr b c) : Gr a c := by
  obtain ⟨q, os, rfl⟩ := h
  obtain ⟨q', os', rfl⟩ := k
  exact ⟨q + q', os ++ os', by show grow (grow ((a.drewN q).drewN q') os) os' = _; rw [grow_grow, World.drewN_drewN]⟩
theorem Gr.alloc {a b : World} (h : Gr a b) (o : Obj) : Gr a (b.alloc o) := h.trans ⟨0, #[o], by rw [alloc_eq_grow]; rfl⟩
theorem Gr.drew {a b : World} (h : Gr a b) : Gr a b.drew := h.trans ⟨1, #[], by rw [grow_empty]; rfl⟩
theorem Gr.below {w w' : World} (h : Gr w w') : Below w.heap.size w w' := by
  obtain ⟨q, os, rfl⟩ := h
  refine ⟨rfl, rfl, rfl, by simp [grow, World.drewN], fun k hk => ?_⟩
  show ((w.drewN q).heap ++ os)[k]? = _
  rw [Array.getElem?_append_left (by exact hk)]
  rfl
/-- the value, and that the world has only grown -/
def GRet (w : World) (v : Value) (e : Ending) (w' : World) : Prop := e = .returned v ∧ Gr w w'
theorem GRet.mk {w w' : World} {v v' : Value} (h : v' = v) (hw : Gr w w') : GRet w v (.returned v') w' := ⟨by rw [h], hw⟩

structure GrownOf (w0 : World) where
  w : World
  g : Gr w0 w
instance (w0 : World) : Nonempty (GrownOf w0) := ⟨⟨w0, Gr.refl _⟩⟩
theorem GrownOf.cell {w0 : World} (x : GrownOf w0) {p : Addr} {v : Value} (h : w0.cell? p = some v) : x.w.cell? p = some v :=
  (x.g.below.cell (World.block_lt_of_cell? w0 _ h)).trans h
theorem Calls.grown {P : Program} {f : FuncId} {args : Array Value} {w : World} {x : GrownOf w} {v : Value} (h : Calls P f args x.w (GRet x.w v)) :
    Calls P f args x.w fun e w'' => e = .returned v ∧ ∃ y : GrownOf w, w'' = y.w :=
  h.mono fun _ w' ⟨he, hb⟩ => ⟨he, ⟨w', x.g.trans hb⟩, rfl⟩

theorem wp_region_tailG {P : Program} {id : Nat} {Q : Exit → Act → World → Prop} {a : Act} {w : World} {l : List Oper} (n : Nat) (hm : P.follows .mixedOrders = true) (hB : Region.lexTailB .any l.toArray n = true)
    (h : wpQuiet P l.toArray (fun w' => ∃ x : GrownOf w, w' = x.w) (fun a' => ∀ w', (∃ x : GrownOf w, w' = x.w) → wpList P l.toArray Q (l.drop n) a' w') (l.take n) a) : (Code.region id l.toArray true).wp P Q a w := by
  simp only [Region.lexTailB, Bool.and_eq_true, decide_eq_true_eq] at hB
  obtain ⟨⟨⟨⟨hsel, hn⟩, hs⟩, hc⟩, hlex⟩ := hB
  have hn' : n < l.length := by simpa using hn
  have htl : (l.take n).length = n := by simp; omega
  have hdl : (l.drop n).length = l.toArray.size - n := by simp
  have inv0 : HeadInv .any l.toArray n (Array.replicate l.toArray.size false) :=
    ⟨by simp, fun j oj _ hl => (by rw [getD_replicate_false] at hl; cases hl), fun t _ ht => getD_in (by simpa using ht) (getD_replicate_false _ _)⟩
  have H := head_lex (C := fun w' => ∃ x : GrownOf w, w' = x.w) (md := .any) (g := l.toArray.size - n) hsel hs hc hn (l.take n) 0 _ a (fun j hj => by
    have hj' : j < n := by rw [htl] at hj; exact hj
    simp [hj']) (by simpa using htl) inv0 (by rw [htl]; exact hlex) h
  refine wp_region_any hm ?_
  have hC : ∃ x : GrownOf w, { w with drawn := w.drawn + 1 } = x.w := ⟨⟨_, (Gr.refl w).drew⟩, rfl⟩
  have := any_of_head (Q' := Q) (g := l.toArray.size - n) (fun listed a' w' hw' hL => by
    have := wpAny_of_seq (md := .any) (Q' := Q) (l.drop n) n listed a' w' (fun j => by simp [List.getElem?_drop]) (by rw [hdl]; exact hL.1) (hL.2 w' hw')
    rwa [hdl] at this) _ _ _ _ hC H
  rw [htl, show n + (l.toArray.size - n) = l.toArray.size by omega] at this
  exact this
end Go.Proofs.Ytfljbiobiobamab
