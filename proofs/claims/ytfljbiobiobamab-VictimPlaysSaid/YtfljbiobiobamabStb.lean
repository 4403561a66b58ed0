/-
  Plain laws for the stable sort of Go's library (insertion sort of blocks, symMerge, rotate). Conditions: none beyond each theorem's own premises.
-/
import Derived.Test.YtfljbiobiobamabFrame
namespace Go.Proofs.Ytfljbiobiobamab
set_option linter.unusedVariables false
namespace Stb

/-- a total preorder -/
structure Ordr (le : Nat → Nat → Bool) : Prop where
  tr : ∀ a b c, le a b = true → le b c = true → le a c = true
  tot : ∀ a b, le a b = false → le b a = true
variable {le : Nat → Nat → Bool} {q : Nat → Nat → Bool}
def Srt (le : Nat → Nat → Bool) (l : List Nat) : Prop := l.Pairwise (fun x y => le x y = true)
/-- the comparison of a later element with an earlier one tells the order -/
def Cnd (le q : Nat → Nat → Bool) (x y : Nat) : Prop := q y x = !(le x y)

/-- rotation's relation -/
inductive Rot : Nat → Nat → Nat → List Nat → List Nat → Prop
  | mk (X U V Y : List Nat) (m i j : Nat) (h1 : X.length + i = m) (h2 : U.length = i) (h3 : V.length = j) : Rot m i j (X ++ (U ++ (V ++ Y))) (X ++ (V ++ (U ++ Y)))
inductive Swp : Nat → Nat → Nat → List Nat → List Nat → Prop
  | mk (X U M V Y : List Nat) (a b n : Nat) (h1 : X.length = a) (h2 : U.length = n) (h3 : V.length = n) (h4 : a + n + M.length = b) : Swp a b n (X ++ (U ++ (M ++ (V ++ Y)))) (X ++ (V ++ (M ++ (U ++ Y))))
theorem split_at (l : List Nat) (k : Nat) (h : k ≤ l.length) : ∃ A B, l = A ++ B ∧ A.length = k := ⟨l.take k, l.drop k, (List.take_append_drop k l).symm, by rw [List.length_take]; omega⟩
theorem Rot.bounds {m i j : Nat} {l t : List Nat} (h : Rot m i j l t) : i ≤ m ∧ m + j ≤ l.length ∧ t.length = l.length := by
  cases h with
  | mk X U V Y m i j h1 h2 h3 => simp only [List.length_append]; omega
theorem Rot.gt {m i j : Nat} {l t : List Nat} (h : Rot m i j l t) (hij : j < i) : ∃ l', Swp (m - i) m j l l' ∧ Rot m (i - j) j l' t := by
  cases h with
  | mk X U V Y m i j h1 h2 h3 =>
    obtain ⟨U1, U2, rfl, hU⟩ := split_at U j (by omega)
    rw [List.length_append] at h2
    refine ⟨X ++ (V ++ (U2 ++ (U1 ++ Y))), ?_, ?_⟩
    · have := Swp.mk X U1 U2 V Y (m - i) m j (by omega) hU h3 (by omega)
      simpa only [List.append_assoc] using this
    · have := Rot.mk (X ++ V) U2 U1 Y m (i - j) j (by rw [List.length_append]; omega) (by omega) hU
      simpa only [List.append_assoc] using this
theorem Rot.lt {m i j : Nat} {l t : List Nat} (h : Rot m i j l t) (hij : i < j) : ∃ l', Swp (m - i) (m + j - i) i l l' ∧ Rot m i (j - i) l' t := by
  cases h with
  | mk X U V Y m i j h1 h2 h3 =>
    obtain ⟨V1, V2, rfl, hV⟩ := split_at V (j - i) (by omega)
    rw [List.length_append] at h3
    refine ⟨X ++ (V2 ++ (V1 ++ (U ++ Y))), ?_, ?_⟩
    · have := Swp.mk X U V1 V2 Y (m - i) (m + j - i) i (by omega) h2 (by omega) (by omega)
      simpa only [List.append_assoc] using this
    · have := Rot.mk X V2 V1 (U ++ Y) m i (j - i) (by omega) (by omega) hV
      simpa only [List.append_assoc] using this
theorem Rot.eq {m i : Nat} {l t : List Nat} (h : Rot m i i l t) : Swp (m - i) m i l t := by
  cases h with
  | mk X U V Y m i j h1 h2 h3 =>
    have := Swp.mk X U [] V Y (m - i) m i (by omega) h2 h3 (by simp; omega)
    simpa only [List.nil_append] using this
/-- one exchange of a swap of ranges -/
theorem Swp.step {a b n : Nat} {l t : List Nat} (h : Swp a b n l t) (hn : 0 < n) : ∃ x y, l[a]? = some x ∧ l[b]? = some y ∧ b ≠ a ∧ Swp (a + 1) (b + 1) (n - 1) ((l.set a y).set b x) t := by
  cases h with
  | mk X U M V Y a b n h1 h2 h3 h4 =>
    cases U with
    | nil => simp at h2; omega
    | cons u U =>
      cases V with
      | nil => simp at h3; omega
      | cons v V =>
        simp only [List.length_cons] at h2 h3
        refine ⟨u, v, ?_, ?_, by omega, ?_⟩
        · rw [List.getElem?_append_right (by omega)]
          simp [h1]
        · have e : X ++ ((u :: U) ++ (M ++ ((v :: V) ++ Y))) = (X ++ (u :: U) ++ M) ++ (v :: (V ++ Y)) := by simp
          rw [e, List.getElem?_append_right (by simp; omega)]
          have : b - (X ++ (u :: U) ++ M).length = 0 := by simp; omega
          rw [this]; rfl
        · have e1 : (X ++ ((u :: U) ++ (M ++ ((v :: V) ++ Y)))).set a v = X ++ ((v :: U) ++ (M ++ ((v :: V) ++ Y))) := by
            rw [List.set_append_right _ _ (by omega)]
            simp [h1]
          have e2 : (X ++ ((v :: U) ++ (M ++ ((v :: V) ++ Y)))).set b u = X ++ ((v :: U) ++ (M ++ ((u :: V) ++ Y))) := by
            have e : X ++ ((v :: U) ++ (M ++ ((v :: V) ++ Y))) = (X ++ (v :: U) ++ M) ++ (v :: (V ++ Y)) := by simp
            rw [e, List.set_append_right _ _ (by simp; omega)]
            have : b - (X ++ (v :: U) ++ M).length = 0 := by simp; omega
            rw [this]
            simp
          rw [e1, e2]
          have := Swp.mk (X ++ [v]) U (M ++ [u]) V Y (a + 1) (b + 1) (n - 1) (by simp; omega) (by omega) (by omega) (by simp; omega)
          simpa using this
theorem Swp.done {a b : Nat} {l t : List Nat} (h : Swp a b 0 l t) : l = t := by
  cases h with
  | mk X U M V Y a b n h1 h2 h3 h4 =>
    obtain rfl := List.eq_nil_of_length_eq_zero h2
    obtain rfl := List.eq_nil_of_length_eq_zero h3
    rfl
theorem Swp.len {a b n : Nat} {l t : List Nat} (h : Swp a b n l t) : t.length = l.length ∧ a + n ≤ b ∧ b + n ≤ l.length := by
  cases h with
  | mk X U M V Y a b n h1 h2 h3 h4 => simp only [List.length_append]; omega

/-- a merge of two neighbours that lie in order -/
inductive Mrg (le q : Nat → Nat → Bool) : Nat → Nat → Nat → List Nat → List Nat → Prop
  | mk (X U V Y M : List Nat) (a m b : Nat) (h1 : X.length = a) (h2 : a + U.length = m) (h3 : m + V.length = b) (hs : Srt le M) (hp : M.Perm (U ++ V)) : Mrg le q a m b (X ++ (U ++ (V ++ Y))) (X ++ (M ++ Y))
/-- what a merge wants -/
inductive Wnt (le q : Nat → Nat → Bool) : Nat → Nat → Nat → List Nat → Prop
  | mk (X U V Y : List Nat) (a m b : Nat) (h1 : X.length = a) (h2 : a + U.length = m) (h3 : m + V.length = b) (hu : Srt le U) (hv : Srt le V) (hc : ∀ x ∈ U, ∀ y ∈ V, Cnd le q x y) : Wnt le q a m b (X ++ (U ++ (V ++ Y)))
theorem Srt.app {U V : List Nat} (hu : Srt le U) (hv : Srt le V) (h : ∀ x ∈ U, ∀ y ∈ V, le x y = true) : Srt le (U ++ V) := List.pairwise_append.2 ⟨hu, hv, h⟩
theorem Srt.left {U V : List Nat} (h : Srt le (U ++ V)) : Srt le U := (List.pairwise_append.1 h).1
theorem Srt.right {U V : List Nat} (h : Srt le (U ++ V)) : Srt le V := (List.pairwise_append.1 h).2.1
theorem Srt.cross {U V : List Nat} (h : Srt le (U ++ V)) : ∀ x ∈ U, ∀ y ∈ V, le x y = true := (List.pairwise_append.1 h).2.2
theorem Srt.get {U : List Nat} (h : Srt le U) {i j : Nat} (hij : i < j) {x y : Nat} (hi : U[i]? = some x) (hj : U[j]? = some y) : le x y = true := by
  obtain ⟨h1, rfl⟩ := List.getElem?_eq_some_iff.1 hi
  obtain ⟨h2, rfl⟩ := List.getElem?_eq_some_iff.1 hj
  exact List.pairwise_iff_getElem.1 h i j h1 h2 hij
theorem Ordr.refl (O : Ordr le) (a : Nat) : le a a = true := by
  cases h : le a a with
  | true => rfl
  | false => exact h.symm.trans (O.tot a a h)
/-- an element above which a sorted list begins -/
theorem below_all (O : Ordr le) {U : List Nat} (h : Srt le U) {i : Nat} {x z : Nat} (hi : U[i]? = some z) (hx : le x z = true) : ∀ y ∈ U.drop i, le x y = true := by
  intro y hy
  obtain ⟨j, e⟩ := List.mem_iff_getElem?.1 hy
  rw [List.getElem?_drop] at e
  by_cases h0 : j = 0
  · subst h0
    rw [Nat.add_zero, hi] at e
    cases e
    exact hx
  · exact O.tr _ _ _ hx (h.get (by omega) hi e)
theorem above_all (O : Ordr le) {U : List Nat} (h : Srt le U) {i : Nat} {x z : Nat} (hi : U[i]? = some z) (hx : le z x = true) : ∀ y ∈ U.take (i + 1), le y x = true := by
  intro y hy
  obtain ⟨j, e⟩ := List.mem_iff_getElem?.1 hy
  rw [List.getElem?_take] at e
  split at e
  · by_cases h0 : j = i
    · subst h0
      rw [hi] at e
      cases e
      exact hx
    · exact O.tr _ _ _ (h.get (by omega) e hi) hx
  · cases e
/-- the first way: one element on the left, put in at place i -/
theorem ins_left (O : Ordr le) {x : Nat} {V : List Nat} (hv : Srt le V) {i : Nat} (hi : i ≤ V.length) (h1 : ∀ y ∈ V.take i, le y x = true) (h2 : ∀ y ∈ V.drop i, le x y = true) : Srt le (V.take i ++ (x :: V.drop i)) := by
  have hs : Srt le (V.take i ++ V.drop i) := by rw [List.take_append_drop]; exact hv
  refine Srt.app hs.left (List.pairwise_cons.2 ⟨h2, hs.right⟩) fun y hy z hz => ?_
  rcases List.mem_cons.1 hz with rfl | hz
  · exact h1 y hy
  · exact hs.cross y hy z hz
theorem ins_perm (x : Nat) (V : List Nat) (i : Nat) : (V.take i ++ (x :: V.drop i)).Perm (x :: V) := by
  have := List.perm_middle (a := x) (l₁ := V.take i) (l₂ := V.drop i)
  rwa [List.take_append_drop] at this
theorem cnd_t {x y : Nat} (h : Cnd le q x y) (O : Ordr le) (hq : q y x = true) : le y x = true := by
  unfold Cnd at h
  rw [hq] at h
  refine O.tot _ _ ?_
  cases hle : le x y with
  | true => rw [hle] at h; cases h
  | false => rfl
theorem cnd_f {x y : Nat} (h : Cnd le q x y) (hq : q y x = false) : le x y = true := by
  unfold Cnd at h
  rw [hq] at h
  cases hle : le x y with
  | true => rfl
  | false => rw [hle] at h; cases h
/-- the search's end: where the two lists are cut -/
theorem sym_cut (O : Ordr le) {U V : List Nat} (hu : Srt le U) (hv : Srt le V) (hc : ∀ x ∈ U, ∀ y ∈ V, Cnd le q x y) {s t : Nat} (hs : s ≤ U.length) (ht : t ≤ V.length)
    (h1 : s = 0 ∨ t = V.length ∨ ∃ x y, U[s - 1]? = some x ∧ V[t]? = some y ∧ q y x = false)
    (h2 : s = U.length ∨ t = 0 ∨ ∃ x y, U[s]? = some x ∧ V[t - 1]? = some y ∧ q y x = true) :
    ∀ x ∈ U.take s ++ V.take t, ∀ y ∈ U.drop s ++ V.drop t, le x y = true := by
  have su : Srt le (U.take s ++ U.drop s) := by rw [List.take_append_drop]; exact hu
  have sv : Srt le (V.take t ++ V.drop t) := by rw [List.take_append_drop]; exact hv
  intro x hx y hy
  rcases List.mem_append.1 hx with hx | hx <;> rcases List.mem_append.1 hy with hy | hy
  · exact su.cross x hx y hy
  · rcases h1 with h1 | h1 | ⟨a, b, ha, hb, hq⟩
    · subst h1; simp at hx
    · subst h1; simp at hy
    · have hab := cnd_f (hc a (List.mem_of_getElem? ha) b (List.mem_of_getElem? hb)) hq
      by_cases h0 : s = 0
      · subst h0; simp at hx
      · have e := above_all O hu ha (O.refl a) x (by rw [show s - 1 + 1 = s by omega]; exact hx)
        exact O.tr _ _ _ e (O.tr _ _ _ hab (below_all O hv hb (O.refl b) y hy))
  · rcases h2 with h2 | h2 | ⟨a, b, ha, hb, hq⟩
    · subst h2; simp at hy
    · subst h2; simp at hx
    · have hba := cnd_t (hc a (List.mem_of_getElem? ha) b (List.mem_of_getElem? hb)) O hq
      by_cases h0 : t = 0
      · subst h0; simp at hx
      · have e := above_all O hv hb (O.refl b) x (by rw [show t - 1 + 1 = t by omega]; exact hx)
        exact O.tr _ _ _ e (O.tr _ _ _ hba (below_all O hu ha (O.refl a) y hy))
  · exact sv.cross x hx y hy

/-- blocks, each in order -/
inductive Blks (le q : Nat → Nat → Bool) (bs : Nat) : List Nat → Prop
  | last (B : List Nat) (h : B.length ≤ bs) (hs : Srt le B) : Blks le q bs B
  | cons (B R : List Nat) (h : B.length = bs) (hs : Srt le B) (hr : Blks le q bs R) (hc : ∀ x ∈ B, ∀ y ∈ R, Cnd le q x y) : Blks le q bs (B ++ R)
theorem Blks.small {bs : Nat} {l : List Nat} (h : Blks le q bs l) (hl : l.length ≤ bs) : Srt le l := by
  cases h with
  | last B h hs => exact hs
  | cons B R h hs hr hc =>
    rw [List.length_append] at hl
    obtain rfl := List.eq_nil_of_length_eq_zero (show R.length = 0 by omega)
    rw [List.append_nil]
    exact hs
theorem Blks.head {bs : Nat} {l : List Nat} (h : Blks le q bs l) (hl : bs ≤ l.length) : ∃ B R, l = B ++ R ∧ B.length = bs ∧ Srt le B ∧ Blks le q bs R ∧ ∀ x ∈ B, ∀ y ∈ R, Cnd le q x y := by
  cases h with
  | last B h hs => exact ⟨l, [], (List.append_nil _).symm, by omega, hs, .last [] (by simp) List.Pairwise.nil, by simp⟩
  | cons B R h hs hr hc => exact ⟨B, R, rfl, h, hs, hr, hc⟩
/-- blocks as far as they are made -/
def Upt (le q : Nat → Nat → Bool) (bs : Nat) (D R : List Nat) : Prop := ∀ R', Blks le q bs R' → R'.Perm R → Blks le q bs (D ++ R')
theorem Upt.start (bs : Nat) (R : List Nat) : Upt le q bs [] R := fun R' h _ => h
theorem Upt.step {bs : Nat} {D U R M : List Nat} (h : Upt le q bs D (U ++ R)) (hU : U.length = bs) (hM : M.Perm U) (hs : Srt le M) (hc : ∀ x ∈ U, ∀ y ∈ R, Cnd le q x y) : Upt le q bs (D ++ M) R := fun R' hb hp => by
  rw [List.append_assoc]
  exact h _ (.cons _ _ (hM.length_eq.trans hU) hs hb fun x hx y hy => hc x (hM.mem_iff.1 hx) y (hp.mem_iff.1 hy)) (hM.append hp)
theorem Upt.fin {bs : Nat} {D U M : List Nat} (h : Upt le q bs D U) (hU : U.length ≤ bs) (hM : M.Perm U) (hs : Srt le M) : Blks le q bs (D ++ M) := h _ (.last _ (by rw [hM.length_eq]; exact hU) hs) hM
/-- insertion: x runs to the left through what is in order -/
def InsL (X P S Z : List Nat) (x : Nat) : List Nat := X ++ (P ++ (x :: (S ++ Z)))
theorem ins_now (X P S Z : List Nat) (x : Nat) {j : Nat} (hj : X.length + P.length = j) : (InsL X P S Z x)[j]? = some x := by
  unfold InsL
  rw [← List.append_assoc, List.getElem?_append_right (by simp; omega)]
  have : j - (X ++ P).length = 0 := by simp; omega
  rw [this]; rfl
theorem ins_pre (X P S Z : List Nat) (x p : Nat) {j : Nat} (hj : X.length + (P ++ [p]).length = j) : (InsL X (P ++ [p]) S Z x)[j - 1]? = some p := by
  unfold InsL
  simp only [List.length_append, List.length_singleton] at hj
  have e : X ++ (P ++ [p] ++ x :: (S ++ Z)) = (X ++ P) ++ (p :: x :: (S ++ Z)) := by simp
  rw [e, List.getElem?_append_right (by simp; omega)]
  have : j - 1 - (X ++ P).length = 0 := by simp; omega
  rw [this]; rfl
theorem ins_swap (X P S Z : List Nat) (x p : Nat) {j : Nat} (hj : X.length + (P ++ [p]).length = j) : ((InsL X (P ++ [p]) S Z x).set j p).set (j - 1) x = InsL X P (p :: S) Z x := by
  unfold InsL
  simp only [List.length_append, List.length_singleton] at hj
  have e : X ++ (P ++ [p] ++ x :: (S ++ Z)) = (X ++ P ++ [p]) ++ (x :: (S ++ Z)) := by simp
  rw [e, List.set_append_right _ _ (by simp; omega)]
  have h0 : j - (X ++ P ++ [p]).length = 0 := by simp; omega
  rw [h0, List.set_cons_zero]
  have e2 : X ++ P ++ [p] ++ p :: (S ++ Z) = (X ++ P) ++ (p :: p :: (S ++ Z)) := by simp
  rw [e2, List.set_append_right _ _ (by simp; omega)]
  have h1 : j - 1 - (X ++ P).length = 0 := by simp; omega
  rw [h1, List.set_cons_zero]
  simp
structure InsOk (le q : Nat → Nat → Bool) (P S : List Nat) (x : Nat) : Prop where
  st : Srt le (P ++ S)
  ab : ∀ s ∈ S, le x s = true
  cn : ∀ y ∈ P ++ S, Cnd le q y x
theorem InsOk.left (O : Ordr le) {P S : List Nat} {p x : Nat} (h : InsOk le q (P ++ [p]) S x) (hq : q x p = true) : InsOk le q P (p :: S) x where
  st := by have := h.st; rwa [List.append_assoc, List.singleton_append] at this
  ab := fun s hs => by
    have hp := cnd_t (h.cn p (by simp)) O hq
    rcases List.mem_cons.1 hs with rfl | hs
    · exact hp
    · exact h.ab s hs
  cn := fun y hy => h.cn y (by simpa using hy)
theorem InsOk.stop (O : Ordr le) {P S : List Nat} {x : Nat} (h : InsOk le q P S x) (hq : P = [] ∨ ∃ P' p, P = P' ++ [p] ∧ q x p = false) : Srt le (P ++ (x :: S)) := by
  have hpx : ∀ y ∈ P, le y x = true := by
    rcases hq with rfl | ⟨P', p, rfl, hq⟩
    · simp
    · have hp := cnd_f (h.cn p (by simp)) hq
      intro y hy
      rcases List.mem_append.1 hy with hy | hy
      · exact O.tr _ _ _ (h.st.left.cross y hy p (by simp)) hp
      · rw [List.mem_singleton] at hy; subst hy; exact hp
  refine Srt.app h.st.left (List.pairwise_cons.2 ⟨h.ab, h.st.right⟩) fun y hy z hz => ?_
  rcases List.mem_cons.1 hz with rfl | hz
  · exact hpx y hy
  · exact h.st.cross y hy z hz

/-- one element shifted through a list -/
def Sft (X W Y : List Nat) (x p : Nat) : List Nat := X ++ (W.take p ++ (x :: (W.drop p ++ Y)))
theorem Sft.now (X W Y : List Nat) (x p : Nat) (hp : p ≤ W.length) : (Sft X W Y x p)[X.length + p]? = some x := by
  unfold Sft
  rw [← List.append_assoc, List.getElem?_append_right (by simp; omega)]
  have : X.length + p - (X ++ W.take p).length = 0 := by simp; omega
  rw [this]; rfl
theorem Sft.next (X W Y : List Nat) (x p : Nat) {y : Nat} (hp : W[p]? = some y) : (Sft X W Y x p)[X.length + p + 1]? = some y := by
  obtain ⟨hl, rfl⟩ := List.getElem?_eq_some_iff.1 hp
  unfold Sft
  rw [← List.append_assoc, List.getElem?_append_right (by simp; omega)]
  have : X.length + p + 1 - (X ++ W.take p).length = 1 := by simp; omega
  rw [this, List.getElem?_cons_succ, List.drop_eq_getElem_cons hl]
  rfl
theorem Sft.prev (X W Y : List Nat) (x p : Nat) {y : Nat} (hp : W[p]? = some y) : (Sft X W Y x (p + 1))[X.length + p]? = some y := by
  obtain ⟨hl, rfl⟩ := List.getElem?_eq_some_iff.1 hp
  unfold Sft
  rw [← List.append_assoc, List.getElem?_append_left (by simp; omega), List.getElem?_append_right (by omega), List.getElem?_take]
  have : X.length + p - X.length = p := by omega
  rw [this, if_pos (by omega)]
  exact hp
theorem Sft.up (X W Y : List Nat) (x p : Nat) {y : Nat} (hp : W[p]? = some y) : ((Sft X W Y x p).set (X.length + p) y).set (X.length + p + 1) x = Sft X W Y x (p + 1) := by
  obtain ⟨hl, rfl⟩ := List.getElem?_eq_some_iff.1 hp
  unfold Sft
  have h0 : X.length + p - (X ++ W.take p).length = 0 := by simp; omega
  have h1 : X.length + p + 1 - (X ++ W.take p).length = 1 := by simp; omega
  rw [← List.append_assoc, List.set_append_right _ _ (by simp; omega), h0, List.set_append_right _ _ (by simp; omega), h1, List.set_cons_zero, List.set_cons_succ,
    List.drop_eq_getElem_cons hl, List.cons_append, List.set_cons_zero, List.take_add_one, List.getElem?_eq_getElem hl]
  simp only [List.append_assoc, Option.toList_some, List.singleton_append]
theorem Sft.down (X W Y : List Nat) (x p : Nat) {y : Nat} (hp : W[p]? = some y) : ((Sft X W Y x (p + 1)).set (X.length + p + 1) y).set (X.length + p) x = Sft X W Y x p := by
  obtain ⟨hl, rfl⟩ := List.getElem?_eq_some_iff.1 hp
  unfold Sft
  have e : X ++ (W.take (p + 1) ++ x :: (W.drop (p + 1) ++ Y)) = (X ++ W.take p) ++ (W[p] :: x :: (W.drop (p + 1) ++ Y)) := by
    rw [List.take_add_one, List.getElem?_eq_getElem hl]
    simp only [List.append_assoc, Option.toList_some, List.singleton_append]
  have h0 : X.length + p - (X ++ W.take p).length = 0 := by simp; omega
  have h1 : X.length + p + 1 - (X ++ W.take p).length = 1 := by simp; omega
  rw [e, List.set_append_right _ _ (by simp; omega), h1, List.set_append_right _ _ (by simp; omega), h0, List.set_cons_succ, List.set_cons_zero, List.set_cons_zero, List.drop_eq_getElem_cons hl]
  simp only [List.append_assoc, List.cons_append]
theorem Sft.len (X W Y : List Nat) (x p : Nat) : (Sft X W Y x p).length = X.length + W.length + 1 + Y.length := by
  unfold Sft
  simp only [List.length_append, List.length_cons, List.length_take, List.length_drop]
  omega
end Stb
end Go.Proofs.Ytfljbiobiobamab
