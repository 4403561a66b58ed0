/-
  Plain law of package victim: which block is chosen. Conditions: none beyond each theorem's own premises.
-/
import Derived.Test.YtfljbiobiobamabStbW
namespace Go.Proofs.Ytfljbiobiobamab
set_option linter.unusedVariables false
namespace Vic

instance (f : Fm) : Decidable f.ok := by unfold Fm.ok; infer_instance
def OkL (l : List Fm) : Prop := l.length ≤ 4096 ∧ ∀ f ∈ l, f.ok
instance (l : List Fm) : Decidable (OkL l) := by unfold OkL; infer_instance
/-- may be chosen -/
def Cand (l : List Fm) (sp : Int) (j : Nat) : Prop := j < l.length ∧ (fAt l j).dn = 4 ∧ ∀ g ∈ l, (fAt l j).we < g.we + sp
/-- what Greedy answers -/
inductive Way (l : List Fm) (sp : Int) : Int → Int → Prop
  | form (h : ¬ OkL l) : Way l sp 0 1
  | range (h : OkL l) (h1 : sp < 1 ∨ sp > 1048576) : Way l sp 0 2
  | none (h : OkL l) (h1 : ¬ (sp < 1 ∨ sp > 1048576)) (h2 : ∀ j, ¬ Cand l sp j) : Way l sp 0 3
  | some (k : Nat) (h : OkL l) (h1 : ¬ (sp < 1 ∨ sp > 1048576)) (h2 : Cand l sp k) (h3 : ∀ j, Cand l sp j → leB l k j = true) : Way l sp (k : Int) 0
theorem le_anti {l : List Fm} {k j : Nat} (h : leB l k j = true) (h' : leB l j k = true) : k = j := by
  unfold leB at h h'
  rw [decide_eq_true_eq] at h h'
  omega
theorem Way.uniq {l : List Fm} {sp k e k' e' : Int} (h : Way l sp k e) (h' : Way l sp k' e') : k = k' ∧ e = e' := by
  cases h with
  | form h => cases h' with
    | form _ => exact ⟨rfl, rfl⟩
    | range g _ => exact absurd g h
    | none g _ _ => exact absurd g h
    | some _ g _ _ _ => exact absurd g h
  | range h h1 => cases h' with
    | form g => exact absurd h g
    | range _ _ => exact ⟨rfl, rfl⟩
    | none _ g1 _ => exact absurd h1 g1
    | some _ _ g1 _ _ => exact absurd h1 g1
  | none h h1 h2 => cases h' with
    | form g => exact absurd h g
    | range _ g1 => exact absurd g1 h1
    | none _ _ _ => exact ⟨rfl, rfl⟩
    | some k _ _ g2 _ => exact absurd g2 (h2 k)
  | some k h h1 h2 h3 => cases h' with
    | form g => exact absurd h g
    | range _ g1 => exact absurd g1 h1
    | none _ _ g2 => exact absurd h2 (g2 k)
    | some k' _ _ g2 g3 => exact ⟨by rw [le_anti (h3 k' g2) (g3 k h2)], rfl⟩
/-- the least wear -/
def Low (l : List Fm) (m : Int) : Prop := m ≤ 1048576 ∧ (∀ f ∈ l, m ≤ f.we) ∧ (m = 1048576 ∨ ∃ f ∈ l, f.we = m)
theorem Low.cand {l : List Fm} {m sp : Int} (h : Low l m) (hok : OkL l) (h1 : ¬ (sp < 1 ∨ sp > 1048576)) {j : Nat} (hj : j < l.length) : (∀ g ∈ l, (fAt l j).we < g.we + sp) ↔ ¬ ((fAt l j).we - m ≥ sp) := by
  obtain ⟨h2, h3, h4⟩ := h
  constructor
  · intro hg hge
    rcases h4 with h4 | ⟨f, hf, h4⟩
    · have h5 := (hok.2 _ (fAt_mem hj)).2.2
      omega
    · have := hg f hf
      omega
  · intro hge g hg
    have := h3 g hg
    omega
/-- the greatest wear -/
def Most (l : List Fm) (m : Int) : Prop := 0 ≤ m ∧ (∀ f ∈ l, f.we ≤ m) ∧ (m = 0 ∨ ∃ f ∈ l, f.we = m)
/-- how much the wear differs -/
def Sprd (l : List Fm) (m : Int) : Prop := 0 ≤ m ∧ (∀ f ∈ l, ∀ g ∈ l, f.we - g.we ≤ m) ∧ (m = 0 ∨ ∃ f ∈ l, ∃ g ∈ l, f.we - g.we = m)
theorem Sprd.uniq {l : List Fm} {m m' : Int} (h : Sprd l m) (h' : Sprd l m') : m = m' := by
  have key : ∀ {a b : Int}, Sprd l a → Sprd l b → a ≤ b := fun {a b} ha hb => by
    rcases ha.2.2 with h | ⟨f, hf, g, hg, h⟩
    · rw [h]; exact hb.1
    · rw [← h]; exact hb.2.1 f hf g hg
  exact Int.le_antisymm (key h h') (key h' h)
theorem sprd_of {l : List Fm} {a b : Int} (hok : OkL l) (hne : 0 < l.length) (h : Most l a) (h' : Low l b) : Sprd l (a - b) := by
  obtain ⟨f0, hf0⟩ : ∃ f, f ∈ l := ⟨_, List.getElem_mem hne⟩
  have o0 := hok.2 f0 hf0
  have hb0 : ∃ g ∈ l, g.we = b := by
    rcases h'.2.2 with e | e
    · exact ⟨f0, hf0, by have := h'.2.1 f0 hf0; have := o0.2.2; omega⟩
    · exact e
  have ha0 : ∃ f ∈ l, f.we = a := by
    rcases h.2.2 with e | e
    · exact ⟨f0, hf0, by have := h.2.1 f0 hf0; have := o0.2.1; omega⟩
    · exact e
  obtain ⟨g, hg, eg⟩ := hb0
  obtain ⟨f, hf, ef⟩ := ha0
  refine ⟨?_, fun x hx y hy => ?_, .inr ⟨f, hf, g, hg, by omega⟩⟩
  · have := h.2.1 g hg
    omega
  · have := h.2.1 x hx
    have := h'.2.1 y hy
    omega
end Vic
end Go.Proofs.Ytfljbiobiobamab
