/-
  The plain law of sorting by exchanging neighbours: what comes of it is in order, and has the same elements; lists in order with the same elements are one.
-/
import Derived.Test.YtelgalhkggnkbabRows
namespace Go.Proofs.Ytelgalhkggnkbab
namespace Srt
set_option linter.unusedVariables false

section
variable {α : Type} (lt : α → α → Bool)
/-- the element at place j goes down while it is less than the one ahead -/
def sink : Nat → List α → List α
  | 0, l => l
  | j + 1, l => match l[j + 1]?, l[j]? with
    | some b, some a => if lt b a then sink j ((l.set (j + 1) a).set j b) else l
    | _, _ => l
def isort : Nat → List α → List α
  | 0, l => l
  | k + 1, l => sink lt k (isort k l)
theorem sink_stop {j : Nat} {l : List α} {a b : α} (hb : l[j + 1]? = some b) (ha : l[j]? = some a) (h : lt b a = false) : sink lt (j + 1) l = l := by
  rw [sink, hb, ha]
  simp [h]
theorem sink_go {j : Nat} {l : List α} {a b : α} (hb : l[j + 1]? = some b) (ha : l[j]? = some a) (h : lt b a = true) : sink lt (j + 1) l = sink lt j ((l.set (j + 1) a).set j b) := by
  rw [sink, hb, ha]
  simp [h]
theorem sink_len : ∀ (j : Nat) (l : List α), (sink lt j l).length = l.length
  | 0, l => rfl
  | j + 1, l => by
    rw [sink]
    split
    · split
      · rw [sink_len j]; simp
      · rfl
    · rfl
theorem isort_len : ∀ (k : Nat) (l : List α), (isort lt k l).length = l.length
  | 0, l => rfl
  | k + 1, l => by rw [isort, sink_len, isort_len k]

/-- into a list in falling order -/
def insR (x : α) : List α → List α
  | [] => [x]
  | a :: r => if lt x a then a :: insR x r else x :: a :: r
theorem insR_len (x : α) : ∀ r : List α, (insR lt x r).length = r.length + 1
  | [] => rfl
  | a :: r => by
    rw [insR]
    split
    · simp [insR_len x r]
    · rfl
theorem sink_ins (x : α) : ∀ (r s : List α), sink lt r.length (r.reverse ++ x :: s) = (insR lt x r).reverse ++ s
  | [], s => rfl
  | a :: r, s => by
    have hl : r.reverse.length = r.length := List.length_reverse
    have e : (a :: r).reverse ++ x :: s = r.reverse ++ a :: x :: s := by simp
    have ha : (r.reverse ++ a :: x :: s)[r.length]? = some a := by rw [List.getElem?_append_right (by omega), hl, Nat.sub_self]; rfl
    have hb : (r.reverse ++ a :: x :: s)[r.length + 1]? = some x := by rw [List.getElem?_append_right (by omega), hl, Nat.add_sub_cancel_left]; rfl
    rw [e, List.length_cons, insR]
    by_cases h : lt x a = true
    · rw [sink_go lt hb ha h, if_pos h]
      have e2 : (((r.reverse ++ a :: x :: s).set (r.length + 1) a).set r.length x) = r.reverse ++ x :: a :: s := by
        rw [List.set_append_right _ _ (by omega), List.set_append_right _ _ (by omega), hl, Nat.add_sub_cancel_left, Nat.sub_self]
        rfl
      rw [e2, sink_ins x r (a :: s)]
      simp
    · have h' : lt x a = false := by simpa using h
      rw [sink_stop lt hb ha h', if_neg h]
      simp
def insAll : List α → List α → List α
  | [], r => r
  | x :: t, r => insAll t (insR lt x r)
def insRev (l : List α) : List α := insAll lt l []
theorem insAll_snoc (x : α) : ∀ (l r : List α), insAll lt (l ++ [x]) r = insR lt x (insAll lt l r)
  | [], r => rfl
  | y :: l, r => by rw [List.cons_append, insAll, insAll, insAll_snoc x l]
theorem insAll_len : ∀ (l r : List α), (insAll lt l r).length = l.length + r.length
  | [], r => by simp [insAll]
  | x :: l, r => by rw [insAll, insAll_len l, insR_len, List.length_cons]; omega
theorem isort_eq (l : List α) : ∀ k, k ≤ l.length → isort lt k l = (insRev lt (l.take k)).reverse ++ l.drop k
  | 0, _ => by simp [isort, insRev, insAll]
  | k + 1, h => by
    rw [isort, isort_eq l k (by omega)]
    obtain ⟨x, hx⟩ : ∃ x, l[k]? = some x := ⟨_, List.getElem?_eq_getElem (by omega)⟩
    have hd : l.drop k = x :: l.drop (k + 1) := by
      obtain ⟨hk, rfl⟩ := List.getElem?_eq_some_iff.1 hx
      exact List.drop_eq_getElem_cons hk
    have ht : l.take (k + 1) = l.take k ++ [x] := by rw [List.take_add_one, hx]; rfl
    have hlen : (insRev lt (l.take k)).length = k := by rw [insRev, insAll_len]; simp; omega
    rw [hd]
    have := sink_ins lt x (insRev lt (l.take k)) (l.drop (k + 1))
    rw [hlen] at this
    rw [this, ht, insRev, insRev, insAll_snoc]
theorem insR_perm (x : α) : ∀ r : List α, (insR lt x r).Perm (x :: r)
  | [] => List.Perm.refl _
  | a :: r => by
    rw [insR]
    split
    · exact ((insR_perm x r).cons a).trans (List.Perm.swap x a r)
    · exact List.Perm.refl _
theorem insAll_perm : ∀ (l r : List α), (insAll lt l r).Perm (l ++ r)
  | [], r => List.Perm.refl _
  | x :: l, r => (insAll_perm l _).trans (((insR_perm lt x r).append_left l).trans List.perm_middle)
theorem isort_perm (l : List α) : (isort lt l.length l).Perm l := by
  rw [isort_eq lt l l.length (Nat.le_refl _), List.take_length, List.drop_length, List.append_nil]
  exact (List.reverse_perm _).trans (by have := insAll_perm lt l []; simpa [insRev] using this)

/-- in order: none is less than one ahead of it -/
def Asc (l : List α) : Prop := l.Pairwise fun a b => lt b a = false
variable (htr : ∀ a b c, lt a b = false → lt b c = false → lt a c = false) (has : ∀ a b, lt a b = true → lt b a = false)
include htr has
theorem insR_desc (x : α) : ∀ r : List α, r.Pairwise (fun a b => lt a b = false) → (insR lt x r).Pairwise (fun a b => lt a b = false)
  | [], _ => by simp [insR]
  | a :: r, h => by
    obtain ⟨h1, h2⟩ := List.pairwise_cons.1 h
    rw [insR]
    split
    · rename_i hx
      refine List.pairwise_cons.2 ⟨fun b hb => ?_, insR_desc x r h2⟩
      rcases List.mem_cons.1 ((insR_perm lt x r).mem_iff.1 hb) with rfl | hb
      · exact has _ _ hx
      · exact h1 b hb
    · rename_i hx
      have hx' : lt x a = false := by simpa using hx
      refine List.pairwise_cons.2 ⟨fun b hb => ?_, h⟩
      rcases List.mem_cons.1 hb with rfl | hb
      · exact hx'
      · exact htr _ _ _ hx' (h1 b hb)
theorem insAll_desc : ∀ (l r : List α), r.Pairwise (fun a b => lt a b = false) → (insAll lt l r).Pairwise (fun a b => lt a b = false)
  | [], r, h => h
  | x :: l, r, h => insAll_desc l _ (insR_desc lt htr has x r h)
theorem isort_asc (l : List α) : Asc lt (isort lt l.length l) := by
  rw [isort_eq lt l l.length (Nat.le_refl _), List.take_length, List.drop_length, List.append_nil]
  unfold Asc
  rw [List.pairwise_reverse]
  exact insAll_desc lt htr has l [] List.Pairwise.nil
end

section
variable {α : Type} {lt : α → α → Bool}
/-- two lists in order with the same elements are one, if two elements neither of which is less are the same -/
theorem asc_unique : ∀ {l m : List α}, (∀ a ∈ l, ∀ b ∈ l, lt a b = false → lt b a = false → a = b) → Asc lt l → Asc lt m → l.Perm m → l = m
  | [], m, _, _, _, hp => (List.nil_perm.1 hp).symm
  | a :: l, m, heq, hl, hm, hp => by
    cases m with
    | nil => exact absurd hp.length_eq (by simp)
    | cons b m =>
      obtain ⟨hl1, hl2⟩ := List.pairwise_cons.1 hl
      obtain ⟨hm1, hm2⟩ := List.pairwise_cons.1 hm
      have hab : a = b := by
        have hb : b ∈ a :: l := hp.mem_iff.2 (by simp)
        have ha : a ∈ b :: m := hp.mem_iff.1 (by simp)
        rcases List.mem_cons.1 hb with rfl | hb'
        · rfl
        · rcases List.mem_cons.1 ha with rfl | ha'
          · rfl
          · exact heq a (by simp) b hb (hm1 a ha') (hl1 b hb')
      subst hab
      rw [asc_unique (fun x hx y hy => heq x (by simp [hx]) y (by simp [hy])) hl2 hm2 (List.perm_cons a |>.1 hp)]
/-- strictly -/
def Inc (lt : α → α → Bool) (l : List α) : Prop := l.Pairwise fun a b => lt a b = true
theorem inc_unique (hirr : ∀ a, lt a a = false) (has : ∀ a b, lt a b = true → lt b a = false) : ∀ {l m : List α}, Inc lt l → Inc lt m → (∀ x, x ∈ l ↔ x ∈ m) → l = m
  | [], m, _, _, h => by
    cases m with
    | nil => rfl
    | cons b m => exact absurd ((h b).2 (by simp)) (by simp)
  | a :: l, m, hl, hm, h => by
    cases m with
    | nil => exact absurd ((h a).1 (by simp)) (by simp)
    | cons b m =>
      obtain ⟨hl1, hl2⟩ := List.pairwise_cons.1 hl
      obtain ⟨hm1, hm2⟩ := List.pairwise_cons.1 hm
      have hab : a = b := by
        rcases List.mem_cons.1 ((h a).1 (by simp)) with e | ha
        · exact e
        · rcases List.mem_cons.1 ((h b).2 (by simp)) with e | hb
          · exact e.symm
          · have := has _ _ (hl1 b hb)
            rw [hm1 a ha] at this
            cases this
      subst hab
      have hn : ∀ x, x ∈ l ↔ x ∈ m := fun x => by
        constructor
        · intro hx
          rcases List.mem_cons.1 ((h x).1 (by simp [hx])) with rfl | h'
          · have := hl1 x hx
            rw [hirr] at this
            cases this
          · exact h'
        · intro hx
          rcases List.mem_cons.1 ((h x).2 (by simp [hx])) with rfl | h'
          · have := hm1 x hx
            rw [hirr] at this
            cases this
          · exact h'
      rw [inc_unique hirr has hl2 hm2 hn]
end
end Srt
end Go.Proofs.Ytelgalhkggnkbab
