/-
  Runs that are right are in order; what the pieces of the cut runs must be. Conditions: none beyond each theorem's own premises.
-/
import Derived.Test.YtfljbiobiobamaaRcL
namespace Go.Proofs.Ytfljbiobiobamaa
open Go.RowKit
set_option linter.unusedVariables false
namespace Runs

theorem nf_of_right : ∀ (l : List R) (p : Option R), (∀ q, p = some q → Small q) → rightR p l = true → NF p l
  | [], _, _, _ => trivial
  | r :: t, p, hp, h => by
    rw [rightR, Bool.and_eq_true, Bool.and_eq_true] at h
    obtain ⟨⟨h1, h2⟩, h3⟩ := h
    have hs := small_of_one h1
    refine ⟨hs.2.2.2.2.1, fun q e => ?_, nf_of_right t (some r) (fun q e => by cases e; exact hs) h3⟩
    subst e
    obtain ⟨q1, q2, q3, q4, q5, q6⟩ := hp q rfl
    simp only [chk, contB, wrap_small q1 q2 q5 q6, wrap_small q3 q4 q5 q6, Bool.and_eq_true, Bool.not_eq_true', decide_eq_false_iff_not, Bool.and_eq_false_iff] at h2
    obtain ⟨h4, h5⟩ := h2
    refine ⟨by omega, fun ⟨e1, e2⟩ => ?_⟩
    rcases h5 with h5 | h5
    · exact h5 e1.symm
    · exact h5 e2.symm
theorem nf_len_ : ∀ (l : List R) (q : R), NF (some q) l → (∀ r ∈ l, Small r) → 1 ≤ q.many → l ≠ [] → q.at_ + (l.length : Int) ≤ 1099511627776
  | [], _, _, _, _, h => absurd rfl h
  | r :: t, q, ⟨h1, h2, h3⟩, hs, hq, _ => by
    have e1 := (h2 q rfl).1
    have e2 := hs r (by simp)
    have e3 := e2.2.1
    by_cases ht : t = []
    · subst ht
      simp only [List.length_cons, List.length_nil]
      omega
    · have := nf_len_ t r h3 (fun y hy => hs y (by simp [hy])) h1 ht
      rw [List.length_cons]
      omega
theorem nf_len {l : List R} (h : NF none l) (hs : ∀ r ∈ l, Small r) : l.length ≤ 1099511627777 := by
  cases l with
  | nil => simp
  | cons r t =>
    have e2 := (hs r (by simp)).1
    by_cases ht : t = []
    · subst ht
      simp
    · have := nf_len_ t r h.2.2 (fun y hy => hs y (by simp [hy])) h.1 ht
      rw [List.length_cons]
      omega
theorem findL_fn (x : Int) : ∀ l : List R, findL x l = fn x l
  | [] => rfl
  | r :: t => by
    rw [findL, fn, findL_fn x t]
    split
    · congr 1; omega
    · rfl
theorem mfind_fn {x d : Int} {l : List R} (hs : ∀ r ∈ l, Small r) : fn x l = some d ↔ (mfindL x l = d ∧ 0 ≤ d) := by
  unfold mfindL
  rw [findL_fn]
  cases hf : fn x l with
  | none =>
    simp only [Option.getD_none]
    constructor
    · intro h; cases h
    · rintro ⟨h1, h2⟩; omega
  | some v =>
    have := findL_range hs (by rw [findL_fn]; exact hf)
    simp only [Option.getD_some, Option.some.injEq]
    constructor
    · intro h; omega
    · intro h; exact h.1
theorem cut_edges {s m : Int} {l : List R} {q : R} (hm : 1 ≤ m) (h : q ∈ cutL s (s + m) l) (rd : Int) : q.at_ ∈ Eof ⟨s, rd, m⟩ l ∧ q.at_ + q.many ∈ Eof ⟨s, rd, m⟩ l := by
  unfold cutL at h
  obtain ⟨r, hr, h⟩ := List.mem_flatMap.1 h
  rw [mem_Eof, mem_Eof]
  simp only
  rcases List.mem_append.1 h with h | h
  · unfold lo1 at h
    split at h
    · rename_i hc
      simp only [List.mem_singleton] at h
      subst h
      simp only
      refine ⟨.inr ⟨r, hr, .inl rfl⟩, ?_⟩
      by_cases h1 : r.many ≤ s - r.at_
      · exact .inr ⟨r, hr, .inr (by omega)⟩
      · exact .inl (.inr (by omega))
    · cases h
  · unfold hi1 at h
    split at h
    · rename_i hc
      simp only [List.mem_singleton] at h
      subst h
      simp only
      refine ⟨?_, .inr ⟨r, hr, .inr (by omega)⟩⟩
      by_cases h1 : r.many ≤ r.at_ + r.many - (s + m)
      · exact .inr ⟨r, hr, .inl (by omega)⟩
      · exact .inl (.inl (by omega))
    · cases h
theorem cut_fn {s m x d : Int} {l : List R} (hm : 1 ≤ m) (hs : ∀ r ∈ l, Small r) : fn x (cutL s (s + m) l) = some d ↔ (dkf false ⟨s, 0, m⟩ l x = d ∧ 0 ≤ d) := by
  rw [fn_cut (by omega) x l (fun r hr => (hs r hr).2.2.2.2.1)]
  unfold dkf
  simp only
  split
  · constructor
    · intro h; cases h
    · rintro ⟨h1, h2⟩; simp at h1; omega
  · exact mfind_fn hs
end Runs
end Go.Proofs.Ytfljbiobiobamaa
