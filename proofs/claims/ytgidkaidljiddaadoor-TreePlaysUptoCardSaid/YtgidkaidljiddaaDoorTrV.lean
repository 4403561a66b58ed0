/-
  The plain law of the reference's move: a new table filled from the old one, path by path. Plain Lean, no program. Conditions: none.
-/
import Derived.Test.YtgidkaidljiddaaDoorTrM2
namespace Go.Proofs.YtgidkaidljiddaaDoor
set_option linter.unusedVariables false
namespace Tr
open Pt (By Nm parts ppath slashed spl)
open Dr (GoodB)

/-- where a path goes -/
def tr (p q l : List By) : List By := if p <+: l then q ++ l.drop p.length else l
theorem tr_in {p q t : List By} : tr p q (p ++ t) = q ++ t := by unfold tr; rw [if_pos ⟨t, rfl⟩, List.drop_left]
theorem tr_out {p q l : List By} (h : ¬ p <+: l) : tr p q l = l := by unfold tr; rw [if_neg h]
theorem cl_tr {p q l : List By} (hq : Cl q) (hl : Cl l) : Cl (tr p q l) := by
  by_cases h : p <+: l
  · obtain ⟨t, rfl⟩ := h
    rw [tr_in]
    exact cl_append.2 ⟨hq, (cl_append.1 hl).2⟩
  · rw [tr_out h]; exact hl
theorem tr_inj {H : Tree} {F : Nat → Bool} {nn : Nat} (I : TI H F nn) {p q l m : List By} {a b : Nat} (hq : H q = none) (hl : H l = some a) (hm : H m = some b) (e : tr p q l = tr p q m) : l = m := by
  have no : ∀ (l : List By) (t : List By) (a : Nat), H l = some a → q ++ t = l → False := fun l t a h e => by
    rw [← e, no_ext I t.length t q rfl hq] at h
    cases h
  by_cases h1 : p <+: l
  · obtain ⟨t, rfl⟩ := h1
    rw [tr_in] at e
    by_cases h2 : p <+: m
    · obtain ⟨s, rfl⟩ := h2
      rw [tr_in] at e
      rw [List.append_cancel_left e]
    · rw [tr_out h2] at e
      exact absurd e fun e => no m t b hm e
  · rw [tr_out h1] at e
    by_cases h2 : p <+: m
    · obtain ⟨s, rfl⟩ := h2
      rw [tr_in] at e
      exact absurd e.symm fun e => no l s a hl e
    · rw [tr_out h2] at e
      exact e
def MvTab {α : Type} (H : Tree) (v : Nat → α) (p q : List By) (todo : List ByteArray) (hn : ByteArray → Option α) : Prop :=
  ∀ k x, hn k = some x ↔ ∃ l a, H l = some a ∧ P l ∉ todo ∧ k = P (tr p q l) ∧ x = v a
theorem mvtab_start {α : Type} {H : Tree} {v : Nat → α} {h : ByteArray → Option α} (T : Tab H v h) (hcl : ∀ m a, H m = some a → Cl m) {p q : List By} {todo : List ByteArray} (hm : ∀ x, x ∈ todo ↔ (h x).isSome = true) : MvTab H v p q todo mno := fun k x => by
  constructor
  · intro e; cases e
  · rintro ⟨l, a, h1, h2, _⟩
    exact absurd ((hm _).2 (by rw [tab_look T (hcl _ _ h1), h1]; rfl)) h2
theorem mvtab_next {α : Type} {H : Tree} {F : Nat → Bool} {nn : Nat} (I : TI H F nn) {v : Nat → α} {p q l : List By} {a : Nat} (hq0 : H q = none) (hcq : Cl q) {todo todo' : List ByteArray} {hn : ByteArray → Option α} (M : MvTab H v p q todo hn) (hl : H l = some a) (hin : P l ∈ todo)
    (hme : ∀ y, y ∈ todo' ↔ (y ≠ P l ∧ y ∈ todo)) : MvTab H v p q todo' (mup hn (P (tr p q l)) (v a)) := fun k x => by
  have key : ∀ m b, H m = some b → P (tr p q m) = P (tr p q l) → m = l := fun m b hm e =>
    tr_inj I hq0 hm hl (P_inj (cl_tr hcq (I.clean _ _ hm)) (cl_tr hcq (I.clean _ _ hl)) e)
  by_cases hk : k = P (tr p q l)
  · subst hk
    rw [mup_same]
    constructor
    · intro e
      cases e
      exact ⟨l, a, hl, fun e => ((hme _).1 e).1 rfl, rfl, rfl⟩
    · rintro ⟨m, b, hm, h2, h3, rfl⟩
      have := key m b hm h3.symm
      subst this
      rw [hl] at hm
      cases hm
      rfl
  · rw [mup_other _ _ hk, M k x]
    constructor
    · rintro ⟨m, b, hm, h2, rfl, rfl⟩
      exact ⟨m, b, hm, fun e => h2 ((hme _).1 e).2, rfl, rfl⟩
    · rintro ⟨m, b, hm, h2, rfl, rfl⟩
      refine ⟨m, b, hm, fun e => h2 ((hme _).2 ⟨fun e2 => hk ?_, e⟩), rfl, rfl⟩
      rw [P_inj (I.clean _ _ hm) (I.clean _ _ hl) e2]
theorem mvtab_end {α : Type} {H : Tree} {F : Nat → Bool} {nn : Nat} (I : TI H F nn) {v : Nat → α} {p q : List By} (hq0 : H q = none) (hcq : Cl q) {hn : ByteArray → Option α} (M : MvTab H v p q [] hn) : Tab (mv H p q) v hn := fun k x => by
  have no : ∀ (l : List By) (a : Nat), H l = some a → ¬ q <+: l := fun l a h ⟨t, e⟩ => by
    rw [← e, no_ext I t.length t q rfl hq0] at h
    cases h
  rw [M k x]
  constructor
  · rintro ⟨l, a, h1, _, rfl, rfl⟩
    refine ⟨tr p q l, a, cl_tr hcq (I.clean _ _ h1), ?_, rfl, rfl⟩
    by_cases h : p <+: l
    · obtain ⟨t, rfl⟩ := h
      rw [tr_in]
      unfold mv
      rw [if_pos ⟨t, rfl⟩, List.drop_left]
      exact h1
    · rw [tr_out h]
      unfold mv
      rw [if_neg (no l a h1), if_neg h]
      exact h1
  · rintro ⟨l, a, hl, h1, rfl, rfl⟩
    unfold mv at h1
    split at h1
    · next e =>
      obtain ⟨t, rfl⟩ := e
      rw [List.drop_left] at h1
      exact ⟨p ++ t, a, h1, List.not_mem_nil, by rw [tr_in], rfl⟩
    · split at h1
      · cases h1
      · next e => exact ⟨l, a, h1, List.not_mem_nil, by rw [tr_out e], rfl⟩
theorem mup_mup {α : Type} (h : ByteArray → Option α) (k : ByteArray) (a b : α) : mup (mup h k a) k b = mup h k b := by
  funext y
  by_cases e : y = k
  · subst e; rw [mup_same, mup_same]
  · rw [mup_other _ _ e, mup_other _ _ e, mup_other _ _ e]
end Tr
end Go.Proofs.YtgidkaidljiddaaDoor
