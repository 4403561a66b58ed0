/-
  The plain law of merging two tables: what the merge makes is what sorting makes of the newer table and of what of the older one it lacks.
-/
import Derived.Test.YtcndddjnlnigeaaMrgM
import Derived.Test.YtcndddjnlnigeaaSort
namespace Go.Proofs.Ytcndddjnlnigeaa
namespace Mrg
set_option linter.unusedVariables false

def ltC (a b : C) : Bool := decide (a.key < b.key)
inductive Mg : List C → List C → List C → Prop
  | nil : Mg [] [] []
  | new1 {n : C} {ns r : List C} (h : Mg ns [] r) : Mg (n :: ns) [] (n :: r)
  | new2 {n o : C} {ns os r : List C} (hk : n.key < o.key) (h : Mg ns (o :: os) r) : Mg (n :: ns) (o :: os) (n :: r)
  | both {n o : C} {ns os r : List C} (hk : n.key = o.key) (h : Mg ns os r) : Mg (n :: ns) (o :: os) (n :: r)
  | old1 {o : C} {os r : List C} (h : Mg [] os r) : Mg [] (o :: os) (o :: r)
  | old2 {n o : C} {ns os r : List C} (hk : o.key < n.key) (h : Mg (n :: ns) os r) : Mg (n :: ns) (o :: os) (o :: r)
theorem mg_ex : ∀ (k : Nat) (ns os : List C), ns.length + os.length = k → ∃ r, Mg ns os r
  | 0, ns, os, h => by
    obtain rfl := List.eq_nil_of_length_eq_zero (show ns.length = 0 by omega)
    obtain rfl := List.eq_nil_of_length_eq_zero (show os.length = 0 by omega)
    exact ⟨_, .nil⟩
  | k + 1, [], [], h => ⟨_, .nil⟩
  | k + 1, n :: ns, [], h => by
    obtain ⟨r, hr⟩ := mg_ex k ns [] (by simp at h ⊢; omega)
    exact ⟨_, .new1 hr⟩
  | k + 1, [], o :: os, h => by
    obtain ⟨r, hr⟩ := mg_ex k [] os (by simp at h ⊢; omega)
    exact ⟨_, .old1 hr⟩
  | k + 1, n :: ns, o :: os, h => by
    rcases Int.lt_trichotomy n.key o.key with hk | hk | hk
    · obtain ⟨r, hr⟩ := mg_ex k ns (o :: os) (by simp at h ⊢; omega)
      exact ⟨_, .new2 hk hr⟩
    · obtain ⟨r, hr⟩ : ∃ r, Mg ns os r := by
        cases k with
        | zero => simp at h; omega
        | succ k =>
          by_cases hz : ns.length + os.length = k
          · exact mg_ex k ns os hz
          · simp at h; omega
      exact ⟨_, .both hk hr⟩
    · obtain ⟨r, hr⟩ := mg_ex k (n :: ns) os (by simp at h ⊢; omega)
      exact ⟨_, .old2 hk hr⟩
theorem Mg.len {ns os r : List C} (h : Mg ns os r) : r.length ≤ ns.length + os.length := by
  induction h with
  | nil => simp
  | new1 h ih => simp at ih ⊢; omega
  | new2 hk h ih => simp at ih ⊢; omega
  | both hk h ih => simp at ih ⊢; omega
  | old1 h ih => simp at ih ⊢; omega
  | old2 hk h ih => simp at ih ⊢; omega
theorem inc_of {l : List C} (h : IncTo l l.length) : Srt.Inc ltC l := by
  unfold Srt.Inc
  rw [List.pairwise_iff_getElem]
  intro i j hi hj hij
  unfold ltC
  exact decide_eq_true (h.lt' hij (List.getElem?_eq_getElem hi) (List.getElem?_eq_getElem hj))
theorem Mg.has {ns os r : List C} (h : Mg ns os r) : Srt.Inc ltC ns → Srt.Inc ltC os → ∀ x, x ∈ r ↔ (x ∈ ns ∨ (x ∈ os ∧ ∀ n ∈ ns, n.key ≠ x.key)) := by
  unfold Srt.Inc ltC
  induction h with
  | nil => intro _ _ x; simp
  | @new1 n ns r h ih =>
    intro hn ho x
    obtain ⟨h1, h2⟩ := List.pairwise_cons.1 hn
    rw [List.mem_cons, ih h2 ho x]
    simp
  | @new2 n o ns os r hk h ih =>
    intro hn ho x
    obtain ⟨h1, h2⟩ := List.pairwise_cons.1 hn
    obtain ⟨g1, g2⟩ := List.pairwise_cons.1 ho
    rw [List.mem_cons, ih h2 ho x]
    constructor
    · rintro (rfl | h | ⟨h, h'⟩)
      · exact .inl (by simp)
      · exact .inl (by simp [h])
      · refine .inr ⟨h, fun m hm => ?_⟩
        rcases List.mem_cons.1 hm with rfl | hm
        · rcases List.mem_cons.1 h with rfl | h
          · omega
          · have := of_decide_eq_true (g1 x h); omega
        · exact h' m hm
    · rintro (h | ⟨h, h'⟩)
      · rcases List.mem_cons.1 h with rfl | h
        · exact .inl rfl
        · exact .inr (.inl h)
      · exact .inr (.inr ⟨h, fun m hm => h' m (by simp [hm])⟩)
  | @both n o ns os r hk h ih =>
    intro hn ho x
    obtain ⟨h1, h2⟩ := List.pairwise_cons.1 hn
    obtain ⟨g1, g2⟩ := List.pairwise_cons.1 ho
    rw [List.mem_cons, ih h2 g2 x]
    constructor
    · rintro (rfl | h | ⟨h, h'⟩)
      · exact .inl (by simp)
      · exact .inl (by simp [h])
      · refine .inr ⟨by simp [h], fun m hm => ?_⟩
        rcases List.mem_cons.1 hm with rfl | hm
        · have := of_decide_eq_true (g1 x h); omega
        · exact h' m hm
    · rintro (h | ⟨h, h'⟩)
      · rcases List.mem_cons.1 h with rfl | h
        · exact .inl rfl
        · exact .inr (.inl h)
      · rcases List.mem_cons.1 h with rfl | h
        · exact absurd hk (h' n (by simp))
        · exact .inr (.inr ⟨h, fun m hm => h' m (by simp [hm])⟩)
  | @old1 o os r h ih =>
    intro hn ho x
    obtain ⟨g1, g2⟩ := List.pairwise_cons.1 ho
    rw [List.mem_cons, ih hn g2 x]
    simp
  | @old2 n o ns os r hk h ih =>
    intro hn ho x
    obtain ⟨h1, h2⟩ := List.pairwise_cons.1 hn
    obtain ⟨g1, g2⟩ := List.pairwise_cons.1 ho
    rw [List.mem_cons, ih hn g2 x]
    constructor
    · rintro (rfl | h | ⟨h, h'⟩)
      · refine .inr ⟨by simp, fun m hm => ?_⟩
        rcases List.mem_cons.1 hm with rfl | hm
        · omega
        · have := of_decide_eq_true (h1 m hm); omega
      · exact .inl h
      · exact .inr ⟨by simp [h], h'⟩
    · rintro (h | ⟨h, h'⟩)
      · exact .inr (.inl h)
      · rcases List.mem_cons.1 h with rfl | h
        · exact .inl rfl
        · exact .inr (.inr ⟨h, h'⟩)
theorem Mg.inc {ns os r : List C} (h : Mg ns os r) : Srt.Inc ltC ns → Srt.Inc ltC os → Srt.Inc ltC r := by
  induction h with
  | nil => intro _ _; exact List.Pairwise.nil
  | @new1 n ns r h ih =>
    intro hn ho
    obtain ⟨h1, h2⟩ := List.pairwise_cons.1 hn
    refine List.pairwise_cons.2 ⟨fun x hx => ?_, ih h2 ho⟩
    rcases (h.has h2 ho x).1 hx with hx | ⟨hx, _⟩
    · exact h1 x hx
    · cases hx
  | @new2 n o ns os r hk h ih =>
    intro hn ho
    obtain ⟨h1, h2⟩ := List.pairwise_cons.1 hn
    obtain ⟨g1, g2⟩ := List.pairwise_cons.1 ho
    refine List.pairwise_cons.2 ⟨fun x hx => ?_, ih h2 ho⟩
    rcases (h.has h2 ho x).1 hx with hx | ⟨hx, _⟩
    · exact h1 x hx
    · rcases List.mem_cons.1 hx with rfl | hx
      · exact decide_eq_true hk
      · have := of_decide_eq_true (g1 x hx)
        exact decide_eq_true (by omega)
  | @both n o ns os r hk h ih =>
    intro hn ho
    obtain ⟨h1, h2⟩ := List.pairwise_cons.1 hn
    obtain ⟨g1, g2⟩ := List.pairwise_cons.1 ho
    refine List.pairwise_cons.2 ⟨fun x hx => ?_, ih h2 g2⟩
    rcases (h.has h2 g2 x).1 hx with hx | ⟨hx, _⟩
    · exact h1 x hx
    · have := of_decide_eq_true (g1 x hx)
      exact decide_eq_true (by omega)
  | @old1 o os r h ih =>
    intro hn ho
    obtain ⟨g1, g2⟩ := List.pairwise_cons.1 ho
    refine List.pairwise_cons.2 ⟨fun x hx => ?_, ih hn g2⟩
    rcases (h.has hn g2 x).1 hx with hx | ⟨hx, _⟩
    · cases hx
    · exact g1 x hx
  | @old2 n o ns os r hk h ih =>
    intro hn ho
    obtain ⟨h1, h2⟩ := List.pairwise_cons.1 hn
    obtain ⟨g1, g2⟩ := List.pairwise_cons.1 ho
    refine List.pairwise_cons.2 ⟨fun x hx => ?_, ih hn g2⟩
    rcases (h.has hn g2 x).1 hx with hx | ⟨hx, _⟩
    · rcases List.mem_cons.1 hx with rfl | hx
      · exact decide_eq_true hk
      · have := of_decide_eq_true (h1 x hx)
        exact decide_eq_true (by omega)
    · exact g1 x hx

/-- is a key in a table -/
def hasK (ns : List C) (k : Int) : Bool := ns.any fun n => n.key == k
theorem hasK_no {ns : List C} {k : Int} (h : hasK ns k = false) : ∀ n ∈ ns, n.key ≠ k := by
  intro n hn e
  unfold hasK at h
  rw [List.any_eq_false] at h
  exact h n hn (by simp [e])
/-- what of the older table the newer one lacks -/
def restC (ns os : List C) : List C := os.filter fun o => !hasK ns o.key
theorem restC_snoc (ns os : List C) (o : C) : restC ns (os ++ [o]) = if hasK ns o.key then restC ns os else restC ns os ++ [o] := by
  unfold restC
  rw [List.filter_append]
  cases h : hasK ns o.key <;> simp [h]
theorem restC_len (ns os : List C) : (restC ns os).length ≤ os.length := List.length_filter_le _ _
def sortC (l : List C) : List C := Srt.isort ltC l.length l
theorem sortC_len (l : List C) : (sortC l).length = l.length := Srt.isort_len _ _ _
theorem Mg.sorted {ns os r : List C} (h : Mg ns os r) (hn : Rt ns) (ho : Rt os) : sortC (ns ++ restC ns os) = r := by
  have h1 := inc_of hn.1
  have h2 := inc_of ho.1
  have hir : ∀ a : C, ltC a a = false := fun a => by simp [ltC]
  have has : ∀ a b : C, ltC a b = true → ltC b a = false := fun a b h => by simp [ltC] at h ⊢; omega
  have htr : ∀ a b c : C, ltC a b = false → ltC b c = false → ltC a c = false := fun a b c h h' => by simp [ltC] at h h' ⊢; omega
  have hp := Srt.isort_perm ltC (ns ++ restC ns os)
  have hd : (ns ++ restC ns os).Pairwise fun a b => a.key ≠ b.key := by
    rw [List.pairwise_append]
    refine ⟨List.Pairwise.imp (fun {a b} h => ?_) h1, List.Pairwise.imp (fun {a b} h => ?_) (List.Pairwise.sublist List.filter_sublist h2), fun a ha b hb e => ?_⟩
    · have := of_decide_eq_true h; omega
    · have := of_decide_eq_true h; omega
    · have hb' := (List.mem_filter.1 hb).2
      exact hasK_no (by simpa using hb') a ha e
  have hi : Srt.Inc ltC (sortC (ns ++ restC ns os)) := by
    have ha := Srt.isort_asc ltC htr has (ns ++ restC ns os)
    have hd' := (List.Perm.pairwise_iff (fun {a b} (h : a.key ≠ b.key) => Ne.symm h) hp).2 hd
    unfold Srt.Asc at ha
    refine List.Pairwise.imp (fun {a b} h => ?_) (List.Pairwise.and ha hd')
    have h3 : ¬ b.key < a.key := by simpa [ltC] using h.1
    have h4 := h.2
    exact decide_eq_true (by omega)
  refine Srt.inc_unique hir has hi (h.inc h1 h2) fun x => ?_
  rw [show x ∈ sortC (ns ++ restC ns os) ↔ x ∈ ns ++ restC ns os from hp.mem_iff, h.has h1 h2 x, List.mem_append]
  unfold restC
  rw [List.mem_filter]
  constructor
  · rintro (h | ⟨h, h'⟩)
    · exact .inl h
    · exact .inr ⟨h, hasK_no (by simpa using h')⟩
  · rintro (h | ⟨h, h'⟩)
    · exact .inl h
    · refine .inr ⟨h, ?_⟩
      have : hasK ns x.key = false := by
        unfold hasK
        rw [List.any_eq_false]
        intro n hn e
        exact h' n hn (by simpa using e)
      rw [this]
      rfl

/-- what Two answers: the table, and what is wrong -/
def outC (r : List C) : List C × Int := if 4096 < r.length then ([], 4) else (r, 0)
/-- what Last leaves -/
def lastC (l : List C) : List C := l.filter fun c => !c.gone
end Mrg
end Go.Proofs.Ytcndddjnlnigeaa
