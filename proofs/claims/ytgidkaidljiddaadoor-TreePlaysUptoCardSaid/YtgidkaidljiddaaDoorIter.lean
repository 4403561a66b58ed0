/-
  Ranges over a function, over memory of the call's own: what a round keeps; an append in a round. Conditions: none beyond each theorem's own premises.
-/
import Derived.Test.YtgidkaidljiddaaDoorBase
import Derived.RangeFuncNested
import Derived.RangeFuncBound
import Derived.RangeFuncCalls
import Derived.RangeFuncLeaves
import Derived.Shelf.Abstract
import Derived.WalkKit
import Derived.OwnWalkIn
import Derived.TacticsInMore
import Derived.LoopNIn
import Derived.LoopIn
namespace Go.Proofs.YtgidkaidljiddaaDoor
open Go.RowKit
set_option linter.unusedVariables false

/-- a block that no item has is turned -/
theorem Sep.grownNo {w0 w w' : World} {L : List It} {row : Option Nat} (H : Sep w0 w L) (hg : w.grownBy w' row) (hr : ∀ r, row = some r → w0.heap.size ≤ r ∧ ∀ (i : Nat) (x : It), L[i]? = some x → x.blk ≠ some r) : Sep w0 w' L :=
  ⟨H.below.grown hg H.below.size (fun k e => (hr k e).1), fun i x hx => x.keep w w' (fun g e => hg.block g (x.live w (H.all i x hx) g e) (fun e2 => (hr g e2.symm).2 i x hx e)) (H.all i x hx), H.fresh, H.apart⟩
/-- the items are cells -/
def CellIt (x : It) : Prop := ∀ w, x.holds w → ∀ g o, x.blk = some g → w.heap[g]? = some o → o.isCells = true
theorem cellIt_cells (g t : Nat) (l : List Value) : CellIt (.cells g t l) := fun w h g' o e ho => by
  cases e
  have h' : w.heap[g]? = some _ := h
  rw [h'] at ho
  cases ho
  rfl
theorem cellIt_row (E size n : Nat) (v : Value) (xs : List Value) : CellIt (.row E size v n xs) := fun w h g o e ho => by
  have e' : rowBlk v = some g := e
  rcases h.2 with ⟨h0, rfl | ⟨a, rfl⟩⟩ | ⟨g', cap, cur, rfl, hh, _⟩
  · simp [rowBlk] at e'
  · simp [rowBlk] at e'
  · simp [rowBlk] at e'
    subst e'
    rw [hh] at ho
    cases ho
    rfl
theorem sep_own {β : Type} {w0 : World} {B : Nat} (hB : w0.heap.size ≤ B) (L : β → List It) (hL : ∀ s, ∀ x ∈ L s, CellIt x) : OwnFrom B (fun s W => Sep w0 W (L s)) := fun s W W' row H hg hr =>
  H.grownNo hg fun r e => ⟨Nat.le_trans hB (hr r e).1, fun i x hx he => by
    obtain ⟨o, ho, hc⟩ := (hr r e).2
    rw [hL s x (List.mem_of_getElem? hx) W (H.all i x hx) r o he ho] at hc
    cases hc⟩
theorem own_ex {β γ : Type} {B : Nat} {I : γ → β → World → Prop} (h : ∀ c, OwnFrom B (I c)) : OwnFrom B (fun s W => ∃ c, I c s W) := fun s W W' row ⟨c, hs⟩ hg hr => ⟨c, h c s W W' row hs hg hr⟩

theorem wpListIn_append_sep {F : Fence} {nF : Nat} {P : Program} {w0 w : World} {L : List It} {ops : Array Oper} {rest : List Oper} {o : Oper} {a : Act} {Q : Exit → Act → World → Prop} (H : Sep w0 w L) (i : Nat) (hgd : o.guard = none) (s x : Operand) (t : TypeId)
    (ho : o.op = .call { callee := .builtin .append, args := #[s, x], argTypes := #[t, t] })
    (e : TypeId) (ti : TypeInfo) (z : Value) (size bytes : Nat) (ht : P.underlying t = some (.slice e)) (hti : P.info? e = some ti) (hz : ti.zero = some z)
    (hsize : ti.size = size) (hby : ti.bytes = bytes) (hzs : z.cells.size = size) (hsz : 0 < size)
    (v : Value) (n : Nat) (xs : List Value) (hs : a.eval s = v) (hi : L[i]? = some (.row e size v n xs))
    (B : Nat) (A : Option Addr) (m c : Nat) (news : List Value) (hx : a.eval x = .slice A m c) (hr : Rd w B size A m news) (h1 : ∀ u ∈ news, u.oneCell' = true)
    (h63 : n + m ≤ maxLen) (hbytes : (n + m) * bytes ≤ 140737488355328)
    (h : ∀ A' c' w', n + m ≤ c' → KeepsOthers w w' → Below w0.heap.size w w' → Sep w0 w' (L.set i (.row e size (.slice A' (n + m) c') (n + m) (xs ++ news))) → wpListIn F nF P ops Q rest (a.put o.dst (.slice A' (n + m) c')) w') : wpListIn F nF P ops Q (o :: rest) a w := by
  refine wpListIn_plain hgd fun K hK => ?_
  obtain ⟨v', w', hrun, h2, h3, h4⟩ := run_append_row (P := P) w t o.type e ti z size bytes ht hti hz hsize hby hzs hsz v n xs (H.rowHas i hi) B A m c news hr h1 h63 hbytes
  obtain ⟨A', c', rfl, hc⟩ := h2.slice
  have hk : KeepsOthers w w' := KeepsOthers.of_grownBy h3 fun j oj ej hj => cellIt_row e size n v xs w (H.rowHas i hi) j oj ej hj
  have hb : Below w0.heap.size w w' := (Below.refl _ w).grown h3 H.below.size (fun k ek => H.fresh i _ k hi ek)
  unfold Oper.wpIn
  refine ⟨by simp [Oper.about, ho, resolve, Target.leads, Sem.run_pure], ?_⟩
  rw [Oper.semAt_plain F _ _ (by rw [ho]; intro c hc'; cases hc')]
  simp [execOp, ho, resolve, invoke, builtin, hs, hx, hrun, Result.andThen]
  exact hK _ _ (h A' c' w' hc hk hb (H.appended i hi h3 h2 h4))
end Go.Proofs.YtgidkaidljiddaaDoor
