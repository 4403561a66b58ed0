/-
  The plain law of a tree of folders: an operation's ways, all operations; the tables of texts that both programs keep. Plain Lean, no program. Conditions: none.
-/
import Derived.Test.YtgidkaidljiddaaDoorTrM
namespace Go.Proofs.YtgidkaidljiddaaDoor
set_option linter.unusedVariables false
namespace Tr
open Pt (By Nm parts ppath slashed spl)
open Dr (GoodB)

/-- an operation: its kind, and what its paths are -/
structure Op where
  kind : Int
  p : List By
  q : List By
def setF (F : Nat → Bool) (nn : Nat) (x : Bool) : Nat → Bool := fun a => if a = nn then x else F a
inductive Way (H : Tree) (F : Nat → Bool) (nn : Nat) (o : Op) : Int → Tree → (Nat → Bool) → Nat → Prop
  | low (h : o.kind < 1) : Way H F nn o 5 H F nn
  | high (h : 5 < o.kind) : Way H F nn o 5 H F nn
  | newE {e} (h : o.kind = 1 ∨ o.kind = 2) (hf : Fr H F o.p e) (he : e ≠ 0) : Way H F nn o e H F nn
  | new (h : o.kind = 1 ∨ o.kind = 2) (hf : Fr H F o.p 0) : Way H F nn o 0 (put H o.p nn) (setF F nn (decide (o.kind = 1))) (nn + 1)
  | none (h1 : 3 ≤ o.kind) (h2 : o.kind ≤ 5) (h : H o.p = none) : Way H F nn o 3 H F nn
  | moveRoot {a} (h : o.kind = 4) (hp : H o.p = some a) (h0 : o.p = []) : Way H F nn o 2 H F nn
  | moveSame {a} (h : o.kind = 4) (hp : H o.p = some a) (h0 : o.p ≠ []) (hq : o.q = o.p) : Way H F nn o 0 H F nn
  | moveIn {a} (h : o.kind = 4) (hp : H o.p = some a) (h0 : o.p ≠ []) (hq : o.q ≠ o.p) (hi : o.p <+: o.q) : Way H F nn o 9 H F nn
  | moveE {a e} (h : o.kind = 4) (hp : H o.p = some a) (h0 : o.p ≠ []) (hq : o.q ≠ o.p) (hi : ¬ o.p <+: o.q) (hf : Fr H F o.q e) (he : e ≠ 0) : Way H F nn o e H F nn
  | move {a} (h : o.kind = 4) (hp : H o.p = some a) (h0 : o.p ≠ []) (hq : o.q ≠ o.p) (hi : ¬ o.p <+: o.q) (hf : Fr H F o.q 0) : Way H F nn o 0 (mv H o.p o.q) F nn
  | linkF {a} (h : o.kind = 5) (hp : H o.p = some a) (hF : F a = true) : Way H F nn o 1 H F nn
  | linkE {a e} (h : o.kind = 5) (hp : H o.p = some a) (hF : F a = false) (hf : Fr H F o.q e) (he : e ≠ 0) : Way H F nn o e H F nn
  | link {a} (h : o.kind = 5) (hp : H o.p = some a) (hF : F a = false) (hf : Fr H F o.q 0) : Way H F nn o 0 (put H o.q a) F nn
  | remRoot {a} (h : o.kind = 3) (hp : H o.p = some a) (h0 : o.p = []) : Way H F nn o 2 H F nn
  | remHeld {a} (h : o.kind = 3) (hp : H o.p = some a) (h0 : o.p ≠ []) (t : List By) (ht : t ≠ []) (hk : (H (o.p ++ t)).isSome = true) : Way H F nn o 6 H F nn
  | rem {a} (h : o.kind = 3) (hp : H o.p = some a) (h0 : o.p ≠ []) (hno : ∀ t, t ≠ [] → H (o.p ++ t) = none) : Way H F nn o 0 (del H o.p) F nn
theorem way_ex (H : Tree) (F : Nat → Bool) (nn : Nat) (o : Op) : ∃ e H' F' nn', Way H F nn o e H' F' nn' := by
  by_cases hl : o.kind < 1
  · exact ⟨_, _, _, _, .low hl⟩
  by_cases hh : 5 < o.kind
  · exact ⟨_, _, _, _, .high hh⟩
  by_cases h12 : o.kind = 1 ∨ o.kind = 2
  · obtain ⟨e, hf⟩ := fr_ex H F o.p
    by_cases he : e = 0
    · subst he; exact ⟨_, _, _, _, .new h12 hf⟩
    · exact ⟨_, _, _, _, .newE h12 hf he⟩
  cases hp : H o.p with
  | none => exact ⟨_, _, _, _, .none (by omega) (by omega) hp⟩
  | some a =>
    by_cases h4 : o.kind = 4
    · by_cases h0 : o.p = []
      · exact ⟨_, _, _, _, .moveRoot h4 hp h0⟩
      by_cases hq : o.q = o.p
      · exact ⟨_, _, _, _, .moveSame h4 hp h0 hq⟩
      by_cases hi : o.p <+: o.q
      · exact ⟨_, _, _, _, .moveIn h4 hp h0 hq hi⟩
      obtain ⟨e, hf⟩ := fr_ex H F o.q
      by_cases he : e = 0
      · subst he; exact ⟨_, _, _, _, .move h4 hp h0 hq hi hf⟩
      · exact ⟨_, _, _, _, .moveE h4 hp h0 hq hi hf he⟩
    by_cases h5 : o.kind = 5
    · cases hF : F a with
      | true => exact ⟨_, _, _, _, .linkF h5 hp hF⟩
      | false =>
        obtain ⟨e, hf⟩ := fr_ex H F o.q
        by_cases he : e = 0
        · subst he; exact ⟨_, _, _, _, .link h5 hp hF hf⟩
        · exact ⟨_, _, _, _, .linkE h5 hp hF hf he⟩
    have h3 : o.kind = 3 := by omega
    by_cases h0 : o.p = []
    · exact ⟨_, _, _, _, .remRoot h3 hp h0⟩
    by_cases hk : ∃ t, t ≠ [] ∧ (H (o.p ++ t)).isSome = true
    · obtain ⟨t, ht, hk⟩ := hk
      exact ⟨_, _, _, _, .remHeld h3 hp h0 t ht hk⟩
    · refine ⟨_, _, _, _, .rem h3 hp h0 (fun t ht => ?_)⟩
      cases h : H (o.p ++ t) with
      | none => rfl
      | some b => exact absurd ⟨t, ht, by rw [h]; rfl⟩ hk
theorem way_ok {H H' : Tree} {F F' : Nat → Bool} {nn nn' : Nat} {o : Op} {e : Int} (I : TI H F nn) (hcp : Cl o.p) (hcq : Cl o.q) (hw : Way H F nn o e H' F' nn') : TI H' F' nn' ∧ nn' ≤ nn + 1 := by
  cases hw with
  | new h hf =>
    refine ⟨ti_put (ti_grow I _) hcp ?_ (by omega) (fun _ m hm => by have := I.low m nn hm; omega), Nat.le_refl _⟩
    obtain ⟨h1, b, h2, h3, h4⟩ := fr_zero hf
    refine .ok h1 h2 ?_ h4
    show (if b = nn then decide (o.kind = 1) else F b) = true
    rw [if_neg (by have := I.low _ b h2; omega)]
    exact h3
  | move h hp h0 hq hi hf => exact ⟨ti_mv I h0 hcq hi hf, by omega⟩
  | link h hp hF hf => exact ⟨ti_put I hcq hf (I.low _ _ hp) (fun hF' => by rw [hF] at hF'; cases hF'), by omega⟩
  | rem h hp h0 hno => exact ⟨ti_del I h0 hno, by omega⟩
  | _ => exact ⟨I, by omega⟩

/-- all operations -/
inductive Plays : Tree → (Nat → Bool) → Nat → List Op → List Int → Tree → (Nat → Bool) → Nat → Prop
  | nil {H F nn} : Plays H F nn [] [] H F nn
  | cons {H F nn o os e es H1 F1 n1 H2 F2 n2} (h : Way H F nn o e H1 F1 n1) (t : Plays H1 F1 n1 os es H2 F2 n2) : Plays H F nn (o :: os) (e :: es) H2 F2 n2
theorem plays_ex : ∀ (os : List Op) (H : Tree) (F : Nat → Bool) (nn : Nat), ∃ es H' F' nn', Plays H F nn os es H' F' nn'
  | [], H, F, nn => ⟨_, _, _, _, .nil⟩
  | o :: os, H, F, nn => by
    obtain ⟨e, H1, F1, n1, hw⟩ := way_ex H F nn o
    obtain ⟨es, H2, F2, n2, ht⟩ := plays_ex os H1 F1 n1
    exact ⟨_, _, _, _, .cons hw ht⟩
theorem plays_len : ∀ {os : List Op} {H : Tree} {F : Nat → Bool} {nn : Nat} {es : List Int} {H' : Tree} {F' : Nat → Bool} {nn' : Nat}, Plays H F nn os es H' F' nn' → es.length = os.length
  | [], _, _, _, _, _, _, _, h => by cases h; rfl
  | o :: os, _, _, _, _, _, _, _, h => by
    cases h with
    | cons _ t => rw [List.length_cons, List.length_cons, plays_len t]
def H0 : Tree := fun l => if l = [] then some 0 else none
def F0 : Nat → Bool := fun a => decide (a = 0)
theorem ti0 : TI H0 F0 1 := by
  have key : ∀ l a, H0 l = some a → l = [] ∧ a = 0 := fun l a h => by
    unfold H0 at h
    split at h
    · next e => exact ⟨e, (Option.some.inj h).symm⟩
    · cases h
  refine ⟨⟨0, rfl, rfl⟩, fun l a h => ?_, fun l a h0 h => absurd (key l a h).1 h0, fun l m a h1 h2 _ => by rw [(key l a h1).1, (key m a h2).1], fun l a h => by rw [(key l a h).2]; decide⟩
  rw [(key l a h).1]
  intro x hx
  cases hx

/-! tables of texts -/
/-- a table has v (number) at each path's text, and nothing else -/
def Tab {α : Type} (H : Tree) (v : Nat → α) (h : ByteArray → Option α) : Prop := ∀ k x, h k = some x ↔ ∃ l a, Cl l ∧ H l = some a ∧ k = P l ∧ x = v a
theorem tab_look {α : Type} {H : Tree} {v : Nat → α} {h : ByteArray → Option α} (T : Tab H v h) {l : List By} (hl : Cl l) : h (P l) = (H l).map v := by
  cases hh : H l with
  | some a => exact (T _ _).2 ⟨l, a, hl, hh, rfl, rfl⟩
  | none =>
    cases hk : h (P l) with
    | none => rfl
    | some x =>
      obtain ⟨m, a, hm, h1, h2, _⟩ := (T _ _).1 hk
      rw [P_inj hl hm h2, h1] at hh
      cases hh
theorem tab_put {α : Type} {H : Tree} {v : Nat → α} {h : ByteArray → Option α} (T : Tab H v h) {l : List By} (hl : Cl l) (a : Nat) : Tab (put H l a) v (mup h (P l) (v a)) := by
  intro k x
  by_cases hk : k = P l
  · subst hk
    rw [mup_same]
    constructor
    · intro e
      cases e
      exact ⟨l, a, hl, by unfold put; rw [if_pos rfl], rfl, rfl⟩
    · rintro ⟨m, b, hm, h1, h2, rfl⟩
      have e := P_inj hl hm h2
      subst e
      unfold put at h1
      rw [if_pos rfl] at h1
      cases h1
      rfl
  · rw [mup_other _ _ hk, T k x]
    constructor
    · rintro ⟨m, b, hm, h1, rfl, rfl⟩
      exact ⟨m, b, hm, by unfold put; rw [if_neg (fun e => hk (by rw [e]))]; exact h1, rfl, rfl⟩
    · rintro ⟨m, b, hm, h1, rfl, rfl⟩
      unfold put at h1
      rw [if_neg (fun e => hk (by rw [e]))] at h1
      exact ⟨m, b, hm, h1, rfl, rfl⟩
theorem tab_del {α : Type} {H : Tree} {v : Nat → α} {h : ByteArray → Option α} (T : Tab H v h) {l : List By} (hl : Cl l) : Tab (del H l) v (mdel h (P l)) := by
  intro k x
  by_cases hk : k = P l
  · subst hk
    rw [mdel_same]
    constructor
    · intro e; cases e
    · rintro ⟨m, b, hm, h1, h2, rfl⟩
      have e := P_inj hl hm h2
      subst e
      unfold del at h1
      rw [if_pos rfl] at h1
      cases h1
  · rw [mdel_other _ hk, T k x]
    constructor
    · rintro ⟨m, b, hm, h1, rfl, rfl⟩
      exact ⟨m, b, hm, by unfold del; rw [if_neg (fun e => hk (by rw [e]))]; exact h1, rfl, rfl⟩
    · rintro ⟨m, b, hm, h1, rfl, rfl⟩
      unfold del at h1
      rw [if_neg (fun e => hk (by rw [e]))] at h1
      exact ⟨m, b, hm, h1, rfl, rfl⟩
/-- a key of the table is a path's text -/
theorem tab_key {α : Type} {H : Tree} {v : Nat → α} {h : ByteArray → Option α} (T : Tab H v h) {k : ByteArray} {x : α} (hk : h k = some x) : ∃ l a, Cl l ∧ H l = some a ∧ k = P l ∧ x = v a := (T k x).1 hk
/-- the text of a path below, with the beginning turned -/
theorem turn_text {p q t : List By} (hp : p ≠ []) (hq : q ≠ []) : ppath q ++ (ppath (p ++ t)).drop (ppath p).length = ppath (q ++ t) := by
  rw [ppath_ne hp, ppath_ne hq, ppath_ne (show p ++ t ≠ [] by simp [hp]), ppath_ne (show q ++ t ≠ [] by simp [hq]), slashed_append, slashed_append, List.drop_left]
end Tr
end Go.Proofs.YtgidkaidljiddaaDoor
