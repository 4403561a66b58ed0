/-
  Making a heap: what all the goings down, from behind, come to. Conditions: none.
-/
import Derived.Test.YtfljbiobiobamabHpM
namespace Go.Proofs.Ytfljbiobiobamab
namespace Hp
set_option linter.unusedVariables false
/-- what lies at k - 1 goes down, then what lies ahead of it, .. -/
inductive Mk : List W → Nat → List W → Prop
  | zero {l : List W} : Mk l 0 l
  | step {l l1 l' : List W} {k : Nat} (h : Down l k l1) (hl : l1.length = l.length) (r : Mk l1 k l') : Mk l (k + 1) l'
theorem mk_ex : ∀ (k : Nat) (l : List W), ∃ l', Mk l k l' ∧ l'.length = l.length
  | 0, l => ⟨l, .zero, rfl⟩
  | k + 1, l => by
    obtain ⟨l1, h1, h2⟩ := down_ex l.length k l (by omega)
    obtain ⟨l', h3, h4⟩ := mk_ex k l1
    exact ⟨l', .step h1 h2 h3, by omega⟩
theorem mk_more {l lf : List W} : ∀ (d : Nat), Mk l (l.length / 2) lf → Mk l (l.length / 2 + d) lf
  | 0, h => h
  | d + 1, h => by
    show Mk l ((l.length / 2 + d) + 1) lf
    exact .step (.none (by omega)) rfl (mk_more d h)
theorem mk_all {l lf : List W} (h : Mk l (l.length / 2) lf) : Mk l l.length lf := by
  have := mk_more (l.length - l.length / 2) h
  rwa [show l.length / 2 + (l.length - l.length / 2) = l.length by omega] at this
end Hp
end Go.Proofs.Ytfljbiobiobamab
