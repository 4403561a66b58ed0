/-
  The plain law of a tree of folders: by lists of names, each path a node's number; what each operation does; the texts of paths. Plain Lean, no program. Conditions: none.
-/
import Derived.Test.YtgidkaidljiddaaDoorPtM
import Derived.Test.YtgidkaidljiddaaDoorDrMo
import Derived.Test.YtgidkaidljiddaaDoorMap
namespace Go.Proofs.YtgidkaidljiddaaDoor
set_option linter.unusedVariables false
namespace Tr
open Pt (By Nm parts ppath slashed spl)
open Dr (GoodB)

/-! texts of paths -/
def kb (x : By) : ByteArray := ⟨x.toArray⟩
theorem kb_inj {x y : By} (h : kb x = kb y) : x = y := by
  have := congrArg (fun b : ByteArray => b.data.toList) h
  simpa [kb] using this
def Cl (l : List By) : Prop := ∀ x ∈ l, Nm x
def P (l : List By) : ByteArray := kb (ppath l)
theorem P_inj {l m : List By} (hl : Cl l) (hm : Cl m) (h : P l = P m) : l = m := by
  rw [← Pt.parts_ppath l hl, ← Pt.parts_ppath m hm, kb_inj h]
theorem cl_parts (s : By) : Cl (parts s) := Pt.parts_nm s
theorem cl_append {l m : List By} : Cl (l ++ m) ↔ Cl l ∧ Cl m :=
  ⟨fun h => ⟨fun x hx => h x (by simp [hx]), fun x hx => h x (by simp [hx])⟩, fun h x hx => (List.mem_append.1 hx).elim (h.1 x) (h.2 x)⟩
theorem slashed_append (l m : List By) : slashed (l ++ m) = slashed l ++ slashed m := by
  unfold slashed
  rw [List.flatMap_append]
theorem ppath_ne {l : List By} (h : l ≠ []) : ppath l = slashed l := by unfold ppath; rw [if_neg h]
theorem slashed_head {l : List By} (h : l ≠ []) : ∃ r, slashed l = 47 :: r := by
  cases l with
  | nil => exact absurd rfl h
  | cons x t => exact ⟨x ++ slashed t, by simp [slashed]⟩
/-- a path lies below another one: as texts, and as names -/
theorem below_iff {l m : List By} (hl : Cl l) (hm : Cl m) (hm0 : m ≠ []) : (ppath m ++ [47]) <+: ppath l ↔ ∃ t, t ≠ [] ∧ l = m ++ t := by
  have hsl : ∀ k : List By, Cl k → k ≠ [] → spl (slashed k) = [] :: k := fun k hk h0 => Pt.spl_slashed k (fun x hx => (hk x hx).2.2.2) h0
  rw [ppath_ne hm0]
  constructor
  · rintro ⟨r, hr⟩
    by_cases hl0 : l = []
    · subst hl0
      obtain ⟨z, hz⟩ := slashed_head hm0
      rw [hz] at hr
      have := congrArg List.length hr
      simp [ppath] at this
    · rw [ppath_ne hl0, List.append_assoc] at hr
      have h1 := Pt.spl_app (slashed m) r
      have h2 : slashed m ++ 47 :: r = slashed l := hr
      rw [h2, hsl l hl hl0, hsl m hm hm0] at h1
      obtain ⟨x, t, hx⟩ := Pt.spl_ne r
      refine ⟨spl r, by rw [hx]; simp, ?_⟩
      exact (List.cons.inj h1).2
  · rintro ⟨t, ht, rfl⟩
    have h0 : m ++ t ≠ [] := by simp [hm0]
    obtain ⟨r, hr⟩ := slashed_head ht
    rw [ppath_ne h0, slashed_append, hr]
    exact ⟨r, by simp⟩
/-- or is it the same one -/
theorem within_iff {l m : List By} (hl : Cl l) (hm : Cl m) (hm0 : m ≠ []) : (ppath m ++ [47]) <+: (ppath l ++ [47]) ↔ m <+: l := by
  constructor
  · rintro ⟨r, hr⟩
    by_cases hr0 : r = []
    · subst hr0
      rw [List.append_nil] at hr
      have h1 : ppath m = ppath l := List.append_cancel_right hr
      have h2 : m = l := by rw [← Pt.parts_ppath m hm, ← Pt.parts_ppath l hl, h1]
      rw [h2]
      exact List.prefix_refl _
    · obtain ⟨r', c, rfl⟩ : ∃ r' c, r = r' ++ [c] := ⟨r.dropLast, r.getLast hr0, (List.dropLast_concat_getLast hr0).symm⟩
      rw [← List.append_assoc] at hr
      have h1 := List.append_inj' hr rfl
      obtain ⟨t, _, ht⟩ := (below_iff hl hm hm0).1 ⟨r', h1.1⟩
      exact ⟨t, ht.symm⟩
  · rintro ⟨t, rfl⟩
    by_cases ht : t = []
    · subst ht
      rw [List.append_nil]
      exact List.prefix_refl _
    · have h1 := (below_iff hl hm hm0).2 ⟨t, ht, rfl⟩
      exact h1.trans (List.prefix_append _ _)
theorem cmn_iff : ∀ (l m : List By), Pt.cmn l m = m.length ↔ m <+: l
  | l, [] => by
    have h := Pt.cmn_le l []
    simp at h ⊢
    omega
  | [], y :: m => by simp [Pt.cmn]
  | x :: l, y :: m => by
    unfold Pt.cmn
    have ih := cmn_iff l m
    rw [List.cons_prefix_cons]
    by_cases h : x = y
    · rw [if_pos h, List.length_cons]
      constructor
      · intro e; exact ⟨h.symm, ih.1 (by omega)⟩
      · rintro ⟨_, e⟩; have := ih.2 e; omega
    · rw [if_neg h, List.length_cons]
      constructor
      · intro e; omega
      · rintro ⟨e, _⟩; exact absurd e.symm h

/-! trees -/
abbrev Tree := List By → Option Nat
def par (l : List By) : List By := l.take (l.length - 1)
def nam (l : List By) : By := (l[l.length - 1]?).getD []
theorem par_nam {l : List By} (h : l ≠ []) : par l ++ [nam l] = l := by
  have h0 : 0 < l.length := by
    cases l with
    | nil => exact absurd rfl h
    | cons x t => simp
  obtain ⟨x, hx⟩ : ∃ x, l[l.length - 1]? = some x := ⟨_, List.getElem?_eq_getElem (by omega)⟩
  unfold par nam
  rw [hx]
  have e := List.take_add_one (l := l) (i := l.length - 1)
  rw [hx, show l.length - 1 + 1 = l.length by omega, List.take_length] at e
  exact e.symm
/-- what stays true -/
structure TI (H : Tree) (F : Nat → Bool) (nn : Nat) : Prop where
  root : ∃ r, H [] = some r ∧ F r = true
  clean : ∀ l a, H l = some a → Cl l
  closed : ∀ l a, l ≠ [] → H l = some a → ∃ b, H (par l) = some b ∧ F b = true
  one : ∀ l m a, H l = some a → H m = some a → F a = true → l = m
  low : ∀ l a, H l = some a → a < nn
def put (H : Tree) (l : List By) (a : Nat) : Tree := fun m => if m = l then some a else H m
def del (H : Tree) (l : List By) : Tree := fun m => if m = l then none else H m
/-- is a path fresh? -/
inductive Fr (H : Tree) (F : Nat → Bool) (l : List By) : Int → Prop
  | held {a} (h1 : H l = some a) : Fr H F l 6
  | none (h1 : H l = none) (h2 : H (par l) = none) : Fr H F l 3
  | form {a} (h1 : H l = none) (h2 : H (par l) = some a) (h3 : F a = false) : Fr H F l 1
  | range {a} (h1 : H l = none) (h2 : H (par l) = some a) (h3 : F a = true) (h4 : ¬ GoodB (kb (nam l))) : Fr H F l 2
  | ok {a} (h1 : H l = none) (h2 : H (par l) = some a) (h3 : F a = true) (h4 : GoodB (kb (nam l))) : Fr H F l 0
theorem fr_ex (H : Tree) (F : Nat → Bool) (l : List By) : ∃ e, Fr H F l e := by
  cases h1 : H l with
  | some a => exact ⟨_, .held h1⟩
  | none =>
    cases h2 : H (par l) with
    | none => exact ⟨_, .none h1 h2⟩
    | some a =>
      cases h3 : F a with
      | false => exact ⟨_, .form h1 h2 h3⟩
      | true =>
        by_cases h4 : GoodB (kb (nam l))
        · exact ⟨_, .ok h1 h2 h3 h4⟩
        · exact ⟨_, .range h1 h2 h3 h4⟩
theorem fr_zero {H : Tree} {F : Nat → Bool} {l : List By} (h : Fr H F l 0) : H l = none ∧ ∃ a, H (par l) = some a ∧ F a = true ∧ GoodB (kb (nam l)) := by
  generalize he : (0 : Int) = e at h
  cases h with
  | held h1 => cases he
  | none h1 h2 => cases he
  | form h1 h2 h3 => cases he
  | range h1 h2 h3 h4 => cases he
  | ok h1 h2 h3 h4 => exact ⟨h1, _, h2, h3, h4⟩
/-- no path extends one that isn't there -/
theorem no_ext {H : Tree} {F : Nat → Bool} {nn : Nat} (I : TI H F nn) : ∀ (n : Nat) (t q : List By), t.length = n → H q = none → H (q ++ t) = none
  | 0, t, q, ht, hq => by
    obtain rfl := List.eq_nil_of_length_eq_zero ht
    rw [List.append_nil]
    exact hq
  | n + 1, t, q, ht, hq => by
    have ht0 : t ≠ [] := fun e => by subst e; simp at ht
    cases h : H (q ++ t) with
    | none => rfl
    | some a =>
      obtain ⟨b, hb, _⟩ := I.closed (q ++ t) a (by simp [ht0]) h
      have e : par (q ++ t) = q ++ par t := by
        unfold par
        rw [List.length_append, List.take_append, List.take_of_length_le (by omega)]
        congr 1
        congr 1
        omega
      rw [e, no_ext I n (par t) q (by unfold par; rw [List.length_take]; omega) hq] at hb
      cases hb
/-- a path is moved -/
def mv (H : Tree) (p q : List By) : Tree := fun l => if q <+: l then H (p ++ l.drop q.length) else if p <+: l then none else H l
/-- .. one by one -/
def mv1 (p q t : List By) (H : Tree) : Tree := del (put H (q ++ t) ((H (p ++ t)).getD 0)) (p ++ t)
theorem ext_ne {p q : List By} (h1 : ¬ p <+: q) (h2 : ¬ q <+: p) (s t : List By) : q ++ s ≠ p ++ t := fun e => by
  rcases Nat.le_total p.length q.length with h | h
  · exact h1 (List.prefix_of_prefix_length_le ⟨t, rfl⟩ (by rw [← e]; exact ⟨s, rfl⟩) h)
  · exact h2 (List.prefix_of_prefix_length_le ⟨s, rfl⟩ (by rw [e]; exact ⟨t, rfl⟩) h)
/-- some have been moved -/
def mvs (H : Tree) (p q : List By) (ts : List (List By)) : Tree := fun l =>
  if ∃ t ∈ ts, l = q ++ t then H (p ++ l.drop q.length) else if ∃ t ∈ ts, l = p ++ t then none else H l
theorem mvs_nil (H : Tree) (p q : List By) : mvs H p q [] = H := by
  funext l
  unfold mvs
  rw [if_neg (by simp), if_neg (by simp)]
theorem mvs_snoc {H : Tree} {p q : List By} (h1 : ¬ p <+: q) (h2 : ¬ q <+: p) {ts : List (List By)} {t : List By} (hn : t ∉ ts) {a : Nat} (ha : H (p ++ t) = some a) : mvs H p q (ts ++ [t]) = mv1 p q t (mvs H p q ts) := by
  have hat : mvs H p q ts (p ++ t) = some a := by
    unfold mvs
    rw [if_neg (fun ⟨s, _, e⟩ => ext_ne h1 h2 s t e.symm), if_neg (fun ⟨s, hs, e⟩ => hn (by rw [List.append_cancel_left e]; exact hs))]
    exact ha
  funext l
  unfold mv1 del put
  rw [hat]
  by_cases e1 : l = p ++ t
  · rw [if_pos e1]
    unfold mvs
    rw [if_neg (fun ⟨s, _, e⟩ => ext_ne h1 h2 s t (by rw [← e, e1])), if_pos ⟨t, by simp, e1⟩]
  · rw [if_neg e1]
    by_cases e2 : l = q ++ t
    · rw [if_pos e2]
      unfold mvs
      rw [if_pos ⟨t, by simp, e2⟩, e2, List.drop_left, ha]
      rfl
    · rw [if_neg e2]
      have c1 : (∃ s ∈ ts ++ [t], l = q ++ s) ↔ ∃ s ∈ ts, l = q ++ s := by
        constructor
        · rintro ⟨s, hs, e⟩
          rcases List.mem_append.1 hs with h | h
          · exact ⟨s, h, e⟩
          · rw [List.mem_singleton.1 h] at e; exact absurd e e2
        · rintro ⟨s, hs, e⟩; exact ⟨s, by simp [hs], e⟩
      have c2 : (∃ s ∈ ts ++ [t], l = p ++ s) ↔ ∃ s ∈ ts, l = p ++ s := by
        constructor
        · rintro ⟨s, hs, e⟩
          rcases List.mem_append.1 hs with h | h
          · exact ⟨s, h, e⟩
          · rw [List.mem_singleton.1 h] at e; exact absurd e e1
        · rintro ⟨s, hs, e⟩; exact ⟨s, by simp [hs], e⟩
      unfold mvs
      simp only [c1, c2]
theorem mvs_all {H : Tree} {F : Nat → Bool} {nn : Nat} (I : TI H F nn) {p q : List By} (hq : H q = none) {ts : List (List By)} (hts : ∀ t, t ∈ ts ↔ (H (p ++ t)).isSome = true) : mvs H p q ts = mv H p q := by
  funext l
  unfold mvs mv
  by_cases h1 : q <+: l
  · rw [if_pos h1]
    obtain ⟨t, rfl⟩ := h1
    rw [List.drop_left]
    by_cases ht : t ∈ ts
    · rw [if_pos ⟨t, ht, rfl⟩]
    · rw [if_neg (fun ⟨s, hs, e⟩ => ht (by rw [List.append_cancel_left e]; exact hs))]
      have hno : H (p ++ t) = none := by
        cases h : H (p ++ t) with
        | none => rfl
        | some a => exact absurd ((hts t).2 (by rw [h]; rfl)) ht
      rw [hno]
      split
      · rfl
      · exact no_ext I t.length t q rfl hq
  · rw [if_neg h1, if_neg (fun ⟨s, _, e⟩ => h1 ⟨s, e.symm⟩)]
    by_cases h2 : p <+: l
    · rw [if_pos h2]
      obtain ⟨t, rfl⟩ := h2
      by_cases ht : t ∈ ts
      · rw [if_pos ⟨t, ht, rfl⟩]
      · rw [if_neg (fun ⟨s, hs, e⟩ => ht (by rw [List.append_cancel_left e]; exact hs))]
        cases h : H (p ++ t) with
        | none => rfl
        | some a => exact absurd ((hts t).2 (by rw [h]; rfl)) ht
    · rw [if_neg h2, if_neg (fun ⟨s, _, e⟩ => h2 ⟨s, e.symm⟩)]

/-! what stays true -/
theorem par_snoc (l : List By) (x : By) : par (l ++ [x]) = l := by
  unfold par
  simp
theorem par_len {l : List By} (h : l ≠ []) : (par l).length < l.length := by
  have h0 : 0 < l.length := List.length_pos_iff.2 h
  unfold par
  rw [List.length_take]
  omega
theorem good_nm {x : By} (h : GoodB (kb x)) : Nm x := by
  obtain ⟨h1, h2, h3, h4, h5⟩ := h
  have e : (kb x).data.toList = x := by simp [kb]
  rw [e] at h3 h4 h5
  refine ⟨fun e0 => ?_, h4, h5, fun b hb => (h3 b hb).2⟩
  subst e0
  simp [kb, ByteArray.size] at h1
theorem ti_put {H : Tree} {F : Nat → Bool} {nn : Nat} (I : TI H F nn) {l : List By} (hc : Cl l) (hf : Fr H F l 0) {a : Nat} (ha : a < nn) (hone : F a = true → ∀ m, H m ≠ some a) : TI (put H l a) F nn := by
  obtain ⟨h1, b, h2, h3, h4⟩ := fr_zero hf
  obtain ⟨r, hr, hrf⟩ := I.root
  have hl0 : l ≠ [] := fun e => by subst e; rw [hr] at h1; cases h1
  refine ⟨⟨r, by unfold put; rw [if_neg (fun e => hl0 e.symm)]; exact hr, hrf⟩, fun m c hm => ?_, fun m c hm0 hm => ?_, fun m m' c hm hm' hF => ?_, fun m c hm => ?_⟩
  · unfold put at hm
    split at hm
    · next e => rw [e]; exact hc
    · exact I.clean m c hm
  · unfold put at hm
    have key : ∀ d, H (par m) = some d → F d = true → ∃ d, put H l a (par m) = some d ∧ F d = true := fun d hd hdF => by
      have : par m ≠ l := fun e => by rw [e, h1] at hd; cases hd
      exact ⟨d, by unfold put; rw [if_neg this]; exact hd, hdF⟩
    split at hm
    · next e => subst e; exact key b h2 h3
    · obtain ⟨d, hd, hdF⟩ := I.closed m c hm0 hm
      exact key d hd hdF
  · unfold put at hm hm'
    split at hm
    · next e =>
      split at hm'
      · next e' => rw [e, e']
      · cases hm
        exact absurd hm' (hone hF m')
    · split at hm'
      · next e' =>
        cases hm'
        exact absurd hm (hone hF m)
      · exact I.one m m' c hm hm' hF
  · unfold put at hm
    split at hm
    · cases hm; exact ha
    · exact I.low m c hm
theorem ti_grow {H : Tree} {F : Nat → Bool} {nn : Nat} (I : TI H F nn) (x : Bool) : TI H (fun a => if a = nn then x else F a) (nn + 1) := by
  have key : ∀ l a, H l = some a → (if a = nn then x else F a) = F a := fun l a h => if_neg (by have := I.low l a h; omega)
  obtain ⟨r, hr, hrf⟩ := I.root
  refine ⟨⟨r, hr, by show (if r = nn then x else F r) = true; rw [key _ r hr]; exact hrf⟩, I.clean, fun l a h0 h => ?_, fun l m a h1 h2 h3 => ?_, fun l a h => by have := I.low l a h; omega⟩
  · obtain ⟨b, hb, hbF⟩ := I.closed l a h0 h
    exact ⟨b, hb, by show (if b = nn then x else F b) = true; rw [key _ b hb]; exact hbF⟩
  · have h3' : (if a = nn then x else F a) = true := h3
    rw [key l a h1] at h3'
    exact I.one l m a h1 h2 h3'
theorem ti_del {H : Tree} {F : Nat → Bool} {nn : Nat} (I : TI H F nn) {l : List By} (h0 : l ≠ []) (hno : ∀ t, t ≠ [] → H (l ++ t) = none) : TI (del H l) F nn := by
  obtain ⟨r, hr, hrf⟩ := I.root
  have key : ∀ m a, del H l m = some a → H m = some a := fun m a h => by
    unfold del at h
    split at h
    · cases h
    · exact h
  refine ⟨⟨r, by unfold del; rw [if_neg (fun e => h0 e.symm)]; exact hr, hrf⟩, fun m a h => I.clean m a (key m a h), fun m a hm0 h => ?_, fun m m' a h1 h2 h3 => I.one m m' a (key _ _ h1) (key _ _ h2) h3, fun m a h => I.low m a (key m a h)⟩
  obtain ⟨b, hb, hbF⟩ := I.closed m a hm0 (key m a h)
  refine ⟨b, ?_, hbF⟩
  unfold del
  rw [if_neg (fun e => ?_)]
  · exact hb
  · have h1 := par_nam hm0
    rw [e] at h1
    have h2 := key m a h
    rw [← h1, hno _ (by simp)] at h2
    cases h2
theorem ti_mv {H : Tree} {F : Nat → Bool} {nn : Nat} (I : TI H F nn) {p q : List By} (hp0 : p ≠ []) (hcq : Cl q) (hpq : ¬ p <+: q) (hf : Fr H F q 0) : TI (mv H p q) F nn := by
  obtain ⟨h1, b, h2, h3, h4⟩ := fr_zero hf
  obtain ⟨r, hr, hrf⟩ := I.root
  have hq0 : q ≠ [] := fun e => by subst e; rw [hr] at h1; cases h1
  have hin : ∀ t, mv H p q (q ++ t) = H (p ++ t) := fun t => by
    unfold mv
    rw [if_pos ⟨t, rfl⟩, List.drop_left]
  have hout : ∀ l, ¬ q <+: l → ¬ p <+: l → mv H p q l = H l := fun l a1 a2 => by
    unfold mv
    rw [if_neg a1, if_neg a2]
  have hcase : ∀ l a, mv H p q l = some a → (∃ t, l = q ++ t ∧ H (p ++ t) = some a) ∨ (¬ q <+: l ∧ ¬ p <+: l ∧ H l = some a) := fun l a h => by
    unfold mv at h
    split at h
    · next e =>
      obtain ⟨t, rfl⟩ := e
      rw [List.drop_left] at h
      exact .inl ⟨t, rfl, h⟩
    · next e =>
      split at h
      · cases h
      · next e2 => exact .inr ⟨e, e2, h⟩
  refine ⟨⟨r, ?_, hrf⟩, fun l a h => ?_, fun l a hl0 h => ?_, fun l m a hl hm hF => ?_, fun l a h => ?_⟩
  · rw [hout [] (fun e => hq0 (List.prefix_nil.1 e)) (fun e => hp0 (List.prefix_nil.1 e))]
    exact hr
  · rcases hcase l a h with ⟨t, rfl, ht⟩ | ⟨_, _, ht⟩
    · exact cl_append.2 ⟨hcq, (cl_append.1 (I.clean _ _ ht)).2⟩
    · exact I.clean l a ht
  · rcases hcase l a h with ⟨t, rfl, ht⟩ | ⟨n1, n2, ht⟩
    · by_cases ht0 : t = []
      · subst ht0
        rw [List.append_nil]
        refine ⟨b, ?_, h3⟩
        rw [hout (par q) (fun e => ?_) (fun e => hpq (e.trans (List.take_prefix _ _)))]
        · exact h2
        · have := e.length_le
          have := par_len hq0
          omega
      · have e : ∀ u : List By, par (u ++ t) = u ++ par t := fun u => by
          unfold par
          have h9 : 0 < t.length := List.length_pos_iff.2 ht0
          rw [List.length_append, List.take_append, List.take_of_length_le (by omega)]
          congr 1
          congr 1
          omega
        obtain ⟨d, hd, hdF⟩ := I.closed (p ++ t) a (by simp [ht0]) ht
        rw [e] at hd
        exact ⟨d, by rw [e, hin]; exact hd, hdF⟩
    · obtain ⟨d, hd, hdF⟩ := I.closed l a hl0 ht
      have hpp : par l <+: l := List.take_prefix _ _
      exact ⟨d, by rw [hout _ (fun e => n1 (e.trans hpp)) (fun e => n2 (e.trans hpp))]; exact hd, hdF⟩
  · rcases hcase l a hl with ⟨t, rfl, ht⟩ | ⟨n1, n2, ht⟩
    · rcases hcase m a hm with ⟨s, rfl, hs⟩ | ⟨m1, m2, hs⟩
      · rw [List.append_cancel_left (I.one _ _ a ht hs hF)]
      · exact absurd ⟨t, I.one _ _ a ht hs hF⟩ m2
    · rcases hcase m a hm with ⟨s, rfl, hs⟩ | ⟨m1, m2, hs⟩
      · exact absurd ⟨s, I.one _ _ a hs ht hF⟩ n2
      · exact I.one _ _ a ht hs hF
  · rcases hcase l a h with ⟨t, rfl, ht⟩ | ⟨_, _, ht⟩
    · exact I.low _ _ ht
    · exact I.low _ _ ht
end Tr
end Go.Proofs.YtgidkaidljiddaaDoor
