/-
  The plain law of a store that keeps each content once: the ways through one operation, told of the reference's list of places; that each operation has a way; what stays true.
-/
import Derived.Test.YtmbkonhclniolaaRows
namespace Go.Proofs.Ytmbkonhclniolaa
namespace Dd
set_option linter.unusedVariables false

structure O where
  (kind id : Int) (data : ByteArray)
structure A where
  (err id : Int) (data : ByteArray)
/-- the places: a content, and how often it is kept -/
abbrev S := List (ByteArray × Nat)
def nos : ByteArray := { data := #[] }

inductive Way (l : S) (o : O) : A → S → Prop
  | kindLo (h : o.kind < 1) : Way l o ⟨5, 0, nos⟩ l
  | kindHi (h : 3 < o.kind) : Way l o ⟨5, 0, nos⟩ l
  | long (hk : o.kind = 1) (h : 4096 < o.data.size) : Way l o ⟨2, 0, nos⟩ l
  | held {i r : Nat} (hk : o.kind = 1) (h : o.data.size ≤ 4096) (hi : l[i]? = some (o.data, r + 1)) : Way l o ⟨0, (i : Int) + 1, nos⟩ (l.set i (o.data, r + 2))
  | again {i : Nat} {d : ByteArray} (hk : o.kind = 1) (h : o.data.size ≤ 4096) (hno : ∀ (j r : Nat), l[j]? ≠ some (o.data, r + 1)) (hi : l[i]? = some (d, 0)) (hlow : ∀ (j : Nat) (d : ByteArray) (r : Nat), j < i → l[j]? = some (d, r) → 0 < r) :
      Way l o ⟨0, (i : Int) + 1, nos⟩ (l.set i (o.data, 1))
  | new (hk : o.kind = 1) (h : o.data.size ≤ 4096) (hno : ∀ (j r : Nat), l[j]? ≠ some (o.data, r + 1)) (hall : ∀ (j : Nat) (d : ByteArray) (r : Nat), l[j]? = some (d, r) → 0 < r) : Way l o ⟨0, (l.length : Int) + 1, nos⟩ (l ++ [(o.data, 1)])
  | none (hk : o.kind = 2 ∨ o.kind = 3) (h : ∀ (i : Nat) (d : ByteArray) (r : Nat), l[i]? = some (d, r + 1) → o.id ≠ (i : Int) + 1) : Way l o ⟨3, 0, nos⟩ l
  | drop {i r : Nat} {d : ByteArray} (hk : o.kind = 2) (hi : l[i]? = some (d, r + 1)) (hid : o.id = (i : Int) + 1) : Way l o ⟨0, (r : Int), nos⟩ (l.set i (d, r))
  | get {i r : Nat} {d : ByteArray} (hk : o.kind = 3) (hi : l[i]? = some (d, r + 1)) (hid : o.id = (i : Int) + 1) : Way l o ⟨0, (r : Int) + 1, d⟩ l

/-- of two places that are kept no two have one content -/
def Ok (l : S) : Prop := ∀ (i j : Nat) (d : ByteArray) (r r' : Nat), l[i]? = some (d, r + 1) → l[j]? = some (d, r' + 1) → i = j
/-- no more than b places, none kept more than b times -/
def Bd (l : S) (b : Nat) : Prop := l.length ≤ b ∧ ∀ (i : Nat) (d : ByteArray) (r : Nat), l[i]? = some (d, r) → r ≤ b

theorem first_ex (p : Nat → Prop) [DecidablePred p] : ∀ n, (∃ i, i < n ∧ p i ∧ ∀ j, j < i → ¬ p j) ∨ ∀ i, i < n → ¬ p i
  | 0 => .inr fun i h => absurd h (by omega)
  | n + 1 => by
    rcases first_ex p n with ⟨i, h1, h2, h3⟩ | h
    · exact .inl ⟨i, by omega, h2, h3⟩
    · by_cases hn : p n
      · exact .inl ⟨n, by omega, hn, h⟩
      · exact .inr fun i hi => by
          by_cases hin : i = n
          · subst hin; exact hn
          · exact h i (by omega)

theorem way_ex (l : S) (o : O) : ∃ a l', Way l o a l' := by
  by_cases h1 : o.kind < 1
  · exact ⟨_, _, .kindLo h1⟩
  by_cases h2 : 3 < o.kind
  · exact ⟨_, _, .kindHi h2⟩
  by_cases h3 : o.kind = 1
  · by_cases h4 : o.data.size ≤ 4096
    · by_cases h5 : ∃ (j r : Nat), l[j]? = some (o.data, r + 1)
      · obtain ⟨j, r, h⟩ := h5
        exact ⟨_, _, .held h3 h4 h⟩
      · have hno : ∀ (j r : Nat), l[j]? ≠ some (o.data, r + 1) := fun j r h => h5 ⟨j, r, h⟩
        rcases first_ex (fun i => (l[i]?.map (·.2)) = some 0) l.length with ⟨i, hi, hp, hlow⟩ | h
        · obtain ⟨⟨d, r⟩, hd⟩ : ∃ x, l[i]? = some x := ⟨_, List.getElem?_eq_getElem hi⟩
          rw [hd] at hp
          obtain rfl : r = 0 := by simpa using hp
          refine ⟨_, _, .again h3 h4 hno hd (fun j d' r' hj hl => ?_)⟩
          have := hlow j hj
          rw [hl] at this
          rcases Nat.eq_zero_or_pos r' with h0 | h0
          · subst h0; exact absurd rfl this
          · exact h0
        · refine ⟨_, _, .new h3 h4 hno (fun j d' r' hl => ?_)⟩
          have := h j (List.getElem?_eq_some_iff.1 hl).1
          rw [hl] at this
          rcases Nat.eq_zero_or_pos r' with h0 | h0
          · subst h0; exact absurd rfl this
          · exact h0
    · exact ⟨_, _, .long h3 (by omega)⟩
  · by_cases h5 : ∃ (i : Nat) (d : ByteArray) (r : Nat), l[i]? = some (d, r + 1) ∧ o.id = (i : Int) + 1
    · obtain ⟨i, d, r, hi, hid⟩ := h5
      by_cases h6 : o.kind = 2
      · exact ⟨_, _, .drop h6 hi hid⟩
      · exact ⟨_, _, .get (by omega) hi hid⟩
    · exact ⟨_, _, .none (by omega) (fun i d r h e => h5 ⟨i, d, r, h, e⟩)⟩

theorem get_set {l : S} {i j : Nat} {x y : ByteArray × Nat} (h : (l.set i x)[j]? = some y) : (j = i ∧ y = x ∧ i < l.length) ∨ (j ≠ i ∧ l[j]? = some y) := by
  rw [List.getElem?_set] at h
  by_cases hij : i = j
  · subst hij
    rw [if_pos rfl] at h
    split at h
    · cases h; exact .inl ⟨rfl, rfl, ‹_›⟩
    · cases h
  · rw [if_neg hij] at h
    exact .inr ⟨fun e => hij e.symm, h⟩
theorem get_snoc {l : S} {j : Nat} {x y : ByteArray × Nat} (h : (l ++ [x])[j]? = some y) : (j = l.length ∧ y = x) ∨ (j < l.length ∧ l[j]? = some y) := by
  rw [List.getElem?_append] at h
  split at h
  · exact .inr ⟨‹_›, h⟩
  · have := (List.getElem?_eq_some_iff.1 h).1
    simp at this
    have hj : j = l.length := by omega
    subst hj
    simp at h
    exact .inl ⟨rfl, h.symm⟩

theorem ok_set {l : S} (h : Ok l) {i : Nat} {d : ByteArray} {r : Nat} (hd : ∀ (j r' : Nat), j ≠ i → l[j]? ≠ some (d, r' + 1)) : Ok (l.set i (d, r)) := by
  intro a b d' ra rb ha hb
  rcases get_set ha with ⟨rfl, e, _⟩ | ⟨hne, ha1⟩ <;> rcases get_set hb with ⟨rfl, e', _⟩ | ⟨hne', hb1⟩
  · rfl
  · cases e; exact absurd hb1 (hd _ _ hne')
  · cases e'; exact absurd ha1 (hd _ _ hne)
  · exact h _ _ _ _ _ ha1 hb1
theorem way_ok {l l' : S} {o : O} {a : A} (h : Ok l) (hw : Way l o a l') : Ok l' := by
  cases hw with
  | held hk hs hi => exact ok_set h fun j r' hj e => hj (h _ _ _ _ _ e hi)
  | again hk hs hno hi hlow => exact ok_set h fun j r' hj e => hno _ _ e
  | drop hk hi hid => exact ok_set h fun j r' hj e => hj (h _ _ _ _ _ e hi)
  | new hk hs hno hall =>
    intro a b d' ra rb ha hb
    rcases get_snoc ha with ⟨rfl, e⟩ | ⟨hne, ha1⟩ <;> rcases get_snoc hb with ⟨rfl, e'⟩ | ⟨hne', hb1⟩
    · rfl
    · cases e; exact absurd hb1 (hno _ _)
    · cases e'; exact absurd ha1 (hno _ _)
    · exact h _ _ _ _ _ ha1 hb1
  | _ => exact h
theorem bd_set {l : S} {b : Nat} (h : Bd l b) {i : Nat} {d : ByteArray} {r : Nat} (hr : r ≤ b + 1) : Bd (l.set i (d, r)) (b + 1) := by
  refine ⟨by rw [List.length_set]; have := h.1; omega, fun j d' r' hj => ?_⟩
  rcases get_set hj with ⟨rfl, e, _⟩ | ⟨_, hj⟩
  · cases e; exact hr
  · have := h.2 _ _ _ hj; omega
theorem bd_more {l : S} {b : Nat} (h : Bd l b) : Bd l (b + 1) := ⟨by have := h.1; omega, fun j d r hj => by have := h.2 _ _ _ hj; omega⟩
theorem way_bd {l l' : S} {o : O} {a : A} {b : Nat} (h : Bd l b) (hw : Way l o a l') : Bd l' (b + 1) := by
  cases hw with
  | held hk hs hi => exact bd_set h (by have := h.2 _ _ _ hi; omega)
  | again hk hs hno hi hlow => exact bd_set h (by omega)
  | drop hk hi hid => exact bd_set h (by have := h.2 _ _ _ hi; omega)
  | new hk hs hno hall =>
    refine ⟨by have := h.1; simp; omega, fun j d r hj => ?_⟩
    rcases get_snoc hj with ⟨rfl, e⟩ | ⟨_, hj⟩
    · cases e; omega
    · have := h.2 _ _ _ hj; omega
  | _ => exact bd_more h

/-- all operations, one behind the other -/
inductive Plays : S → List O → List A → S → Prop
  | nil {l : S} : Plays l [] [] l
  | cons {l l1 l2 : S} {o : O} {a : A} {os : List O} {es : List A} (h : Way l o a l1) (r : Plays l1 os es l2) : Plays l (o :: os) (a :: es) l2
theorem plays_ex : ∀ (os : List O) (l : S), ∃ es l', Plays l os es l'
  | [], l => ⟨[], l, .nil⟩
  | o :: os, l => by
    obtain ⟨a, l1, h⟩ := way_ex l o
    obtain ⟨es, l2, h2⟩ := plays_ex os l1
    exact ⟨_, _, .cons h h2⟩
theorem plays_len {os : List O} {l l' : S} {es : List A} (h : Plays l os es l') : es.length = os.length := by
  induction h with
  | nil => rfl
  | cons _ _ ih => simp [ih]

/-- how many are kept -/
def live (l : S) : Nat := l.countP (fun p => decide (0 < p.2))
theorem live_le (l : S) : live l ≤ l.length := List.countP_le_length
theorem live_set : ∀ (l : S) (i : Nat) (x y : ByteArray × Nat), l[i]? = some x → live (l.set i y) + (if 0 < x.2 then 1 else 0) = live l + (if 0 < y.2 then 1 else 0)
  | [], i, x, y, h => by simp at h
  | p :: l, 0, x, y, h => by
    simp at h
    subst h
    simp [live, List.countP_cons]
    omega
  | p :: l, i + 1, x, y, h => by
    have := live_set l i x y (by simpa using h)
    simp only [live, List.set_cons_succ, List.countP_cons] at this ⊢
    omega
theorem live_snoc (l : S) (d : ByteArray) (r : Nat) : live (l ++ [(d, r + 1)]) = live l + 1 := by simp [live, List.countP_append]
end Dd
end Go.Proofs.Ytmbkonhclniolaa
