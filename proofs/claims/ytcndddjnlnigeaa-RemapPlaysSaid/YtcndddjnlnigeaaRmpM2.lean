/-
  The plain law of remapping, second part: what an operation does to the list of all that was written.
-/
import Derived.Test.YtcndddjnlnigeaaRmpM
namespace Go.Proofs.Ytcndddjnlnigeaa
set_option linter.unusedVariables false
namespace Rmp

/-- the first place of n, from place k on; -1: nowhere -/
def firstP (n : Int) : List Int → Nat → Int
  | [], _ => -1
  | x :: t, k => if x = n then (k : Int) else firstP n t (k + 1)
theorem firstP_cases (n : Int) : ∀ (l : List Int) (k : Nat), (firstP n l k = -1 ∧ ∀ x ∈ l, x ≠ n) ∨ ∃ p : Nat, firstP n l k = ((k + p : Nat) : Int) ∧ l[p]? = some n
  | [], k => .inl ⟨rfl, by simp⟩
  | x :: t, k => by
    rw [firstP]
    by_cases h : x = n
    · rw [if_pos h]
      exact .inr ⟨0, rfl, by simp [h]⟩
    · rw [if_neg h]
      rcases firstP_cases n t (k + 1) with ⟨h1, h2⟩ | ⟨p, h1, h2⟩
      · refine .inl ⟨h1, fun y hy => ?_⟩
        rcases List.mem_cons.1 hy with rfl | hy
        · exact h
        · exact h2 y hy
      · exact .inr ⟨p + 1, by rw [h1]; congr 1; omega, by simpa using h2⟩
theorem firstP_none {n : Int} : ∀ {l : List Int} {k : Nat}, (∀ x ∈ l, x ≠ n) → firstP n l k = -1
  | [], _, _ => rfl
  | x :: t, k, h => by rw [firstP, if_neg (h x (by simp)), firstP_none fun y hy => h y (by simp [hy])]
theorem firstP_set {n y z : Int} (hz : z ≠ n) : ∀ {l : List Int} {k p : Nat}, l[p]? = some y → y ≠ n → firstP n (l.set p z) k = firstP n l k
  | [], _, _, h, _ => by simp at h
  | x :: t, k, 0, h, hy => by
    simp at h
    subst h
    rw [List.set_cons_zero, firstP, firstP, if_neg hz, if_neg hy]
  | x :: t, k, p + 1, h, hy => by
    rw [List.set_cons_succ, firstP, firstP, firstP_set hz (by simpa using h) hy]
theorem firstP_snoc (n m : Int) : ∀ (l : List Int) (k : Nat), firstP n (l ++ [m]) k = if firstP n l k = -1 then (if m = n then ((k + l.length : Nat) : Int) else -1) else firstP n l k
  | [], k => by simp [firstP]
  | x :: t, k => by
    rw [List.cons_append, firstP, firstP]
    by_cases h : x = n
    · rw [if_pos h, if_pos h, if_neg (by omega)]
    · rw [if_neg h, if_neg h, firstP_snoc n m t]
      simp only [List.length_cons]
      rw [show k + 1 + t.length = k + (t.length + 1) by omega]

structure Op where
  (kind n : Int)
inductive Way (pages : Nat) (l : List Int) : Op → Int → List Int → Prop
  | kind {k n : Int} (h1 : (k != 1) = true) (h2 : (k != 2) = true) : Way pages l ⟨k, n⟩ 5 l
  | lo1 {n : Int} (h : n < 0) : Way pages l ⟨1, n⟩ 2 l
  | lo2 {n : Int} (h : n < 0) : Way pages l ⟨2, n⟩ 2 l
  | hi1 {n : Int} (h0 : 0 ≤ n) (h : 16 ≤ n) : Way pages l ⟨1, n⟩ 2 l
  | hi2 {n : Int} (h0 : 0 ≤ n) (h : 16 ≤ n) : Way pages l ⟨2, n⟩ 2 l
  | full {m : Nat} (hm : m < 16) (hl : l.length = pages) : Way pages l ⟨1, m⟩ 4 l
  | none2 {m : Nat} (hm : m < 16) (h : firstP m l 0 = -1) : Way pages l ⟨2, m⟩ 3 l
  | fresh {m : Nat} (hm : m < 16) (hl : l.length < pages) (h : firstP m l 0 = -1) : Way pages l ⟨1, m⟩ 0 (l ++ [(m : Int)])
  | over {m p : Nat} (hm : m < 16) (hl : l.length < pages) (h : firstP m l 0 = (p : Int)) (hp : l[p]? = some (m : Int)) : Way pages l ⟨1, m⟩ 0 (l.set p (-1) ++ [(m : Int)])
  | trim {m p : Nat} (hm : m < 16) (h : firstP m l 0 = (p : Int)) (hp : l[p]? = some (m : Int)) : Way pages l ⟨2, m⟩ 0 (l.set p (-1))

structure Ok (pages : Nat) (l : List Int) : Prop where
  len : l.length ≤ pages
  uniq : ∀ (p q : Nat) (x : Int), x ≠ -1 → l[p]? = some x → l[q]? = some x → p = q
theorem Ok.nil (pages : Nat) : Ok pages [] := ⟨by simp, fun p q x _ h => by simp at h⟩
theorem Ok.set {pages : Nat} {l : List Int} (h : Ok pages l) (p : Nat) : Ok pages (l.set p (-1)) :=
  ⟨by simp [h.len], fun a b x hx ha hb => by
    rw [List.getElem?_set] at ha hb
    split at ha
    · split at ha
      · cases ha; exact absurd rfl hx
      · cases ha
    · split at hb
      · split at hb
        · cases hb; exact absurd rfl hx
        · cases hb
      · exact h.uniq a b x hx ha hb⟩
theorem Ok.gone {pages : Nat} {l : List Int} (h : Ok pages l) {p : Nat} {m : Int} (hm : m ≠ -1) (hp : l[p]? = some m) : ∀ x ∈ l.set p (-1), x ≠ m := by
  intro x hx hxm
  subst hxm
  obtain ⟨q, hq, rfl⟩ := List.getElem_of_mem hx
  have hq' : (l.set p (-1))[q]? = some (l.set p (-1))[q] := List.getElem?_eq_getElem hq
  generalize (l.set p (-1))[q] = x at *
  rw [List.getElem?_set] at hq'
  split at hq'
  · split at hq'
    · cases hq'; exact hm rfl
    · cases hq'
  · rename_i hne
    exact hne (h.uniq p q x hm hp hq')
theorem Ok.snoc {pages : Nat} {l : List Int} (h : Ok pages l) (hl : l.length < pages) {m : Int} (hm : ∀ x ∈ l, x ≠ m) : Ok pages (l ++ [m]) :=
  ⟨by simp; omega, fun p q x hx hp hq => by
    rw [List.getElem?_append] at hp hq
    split at hp
    · split at hq
      · exact h.uniq p q x hx hp hq
      · rename_i h1 h2
        have := (List.getElem?_eq_some_iff.1 hq).1
        simp at this
        have hq0 : q - l.length = 0 := by omega
        rw [hq0] at hq
        simp at hq
        exact absurd hq.symm (hm x (List.mem_of_getElem? hp))
    · split at hq
      · rename_i h1 h2
        have := (List.getElem?_eq_some_iff.1 hp).1
        simp at this
        have hp0 : p - l.length = 0 := by omega
        rw [hp0] at hp
        simp at hp
        exact absurd hp.symm (hm x (List.mem_of_getElem? hq))
      · have h1 := (List.getElem?_eq_some_iff.1 hp).1
        have h2 := (List.getElem?_eq_some_iff.1 hq).1
        simp at h1 h2
        omega⟩

theorem way_ex (pages : Nat) (l : List Int) (hl : Ok pages l) (o : Op) : ∃ e l', Way pages l o e l' ∧ Ok pages l' := by
  obtain ⟨k, n⟩ := o
  by_cases h1 : k = 1
  · subst h1
    by_cases h2 : n < 0
    · exact ⟨_, _, .lo1 h2, hl⟩
    by_cases h3 : 16 ≤ n
    · exact ⟨_, _, .hi1 (by omega) h3, hl⟩
    obtain ⟨m, rfl⟩ := Int.eq_ofNat_of_zero_le (show 0 ≤ n by omega)
    by_cases h4 : l.length = pages
    · exact ⟨_, _, .full (by omega) h4, hl⟩
    have hlt : l.length < pages := by have := hl.len; omega
    rcases firstP_cases (m : Int) l 0 with ⟨h5, h6⟩ | ⟨p, h5, h6⟩
    · exact ⟨_, _, .fresh (by omega) hlt h5, hl.snoc hlt h6⟩
    · rw [Nat.zero_add] at h5
      exact ⟨_, _, .over (by omega) hlt h5 h6, (hl.set p).snoc (by simpa using hlt) (hl.gone (by omega) h6)⟩
  · by_cases h2 : k = 2
    · subst h2
      by_cases h2 : n < 0
      · exact ⟨_, _, .lo2 h2, hl⟩
      by_cases h3 : 16 ≤ n
      · exact ⟨_, _, .hi2 (by omega) h3, hl⟩
      obtain ⟨m, rfl⟩ := Int.eq_ofNat_of_zero_le (show 0 ≤ n by omega)
      rcases firstP_cases (m : Int) l 0 with ⟨h5, h6⟩ | ⟨p, h5, h6⟩
      · exact ⟨_, _, .none2 (by omega) h5, hl⟩
      · rw [Nat.zero_add] at h5
        exact ⟨_, _, .trim (by omega) h5 h6, hl.set p⟩
    · exact ⟨_, _, .kind (by simpa using h1) (by simpa using h2), hl⟩

inductive Plays (pages : Nat) : List Int → List Op → List Int → List Int → Prop
  | nil {l : List Int} : Plays pages l [] [] l
  | cons {l l' lf : List Int} {q : Op} {qs : List Op} {e : Int} {es : List Int} (h : Way pages l q e l') (hl : Ok pages l) (hl' : Ok pages l') (hs : Plays pages l' qs es lf) : Plays pages l (q :: qs) (e :: es) lf
theorem plays_ex (pages : Nat) : ∀ (qs : List Op) (l : List Int), Ok pages l → ∃ es lf, Plays pages l qs es lf ∧ Ok pages lf ∧ es.length = qs.length
  | [], l, h => ⟨[], l, .nil, h, rfl⟩
  | q :: qs, l, h => by
    obtain ⟨e, l', hw, h'⟩ := way_ex pages l h q
    obtain ⟨es, lf, hp, hlf, hel⟩ := plays_ex pages qs l' h'
    exact ⟨e :: es, lf, .cons hw h h' hp, hlf, by simp [hel]⟩

/-- where each number lies -/
def atL (l : List Int) : List Int := mk16 (fun i => firstP (i : Int) l 0) 0 16
theorem atL_at {l : List Int} {m : Nat} (hm : m < 16) : (atL l)[m]? = some (firstP (m : Int) l 0) := by rw [atL, mk16_at hm, if_pos hm]
theorem atL_len (l : List Int) : (atL l).length = 16 := mk16_len _ _ _
theorem atL_nil : atL [] = neg16 := by decide
theorem atL_set {pages : Nat} {l : List Int} (h : Ok pages l) {m p : Nat} (hm : m < 16) (hp : l[p]? = some (m : Int)) : (atL l).set m (-1) = atL (l.set p (-1)) := by
  refine ext16 (by rw [List.length_set, atL_len]) _ 0 fun i hi => ?_
  rw [List.getElem?_set, atL_len, atL_at hi]
  by_cases him : m = i
  · subst him
    rw [if_pos rfl, if_pos hi, firstP_none (h.gone (by omega) hp)]
  · rw [if_neg him, firstP_set (by omega) hp (by omega)]
theorem atL_same {l : List Int} {m : Nat} (hm : m < 16) (h : firstP (m : Int) l 0 = -1) : (atL l).set m (-1) = atL l := by
  apply List.ext_getElem?
  intro i
  rw [List.getElem?_set, atL_len]
  by_cases him : m = i
  · subst him
    rw [if_pos rfl, if_pos hm, atL_at hm, h]
  · rw [if_neg him]
theorem atL_snoc {l : List Int} {m : Nat} (hm : m < 16) (h : ∀ x ∈ l, x ≠ (m : Int)) : (atL l).set m (l.length : Int) = atL (l ++ [(m : Int)]) := by
  refine ext16 (by rw [List.length_set, atL_len]) _ 0 fun i hi => ?_
  rw [List.getElem?_set, atL_len, atL_at hi, firstP_snoc]
  by_cases him : m = i
  · subst him
    rw [if_pos rfl, if_pos hi, firstP_none h, if_pos rfl, if_pos rfl, Nat.zero_add]
  · rw [if_neg him]
    congr 1
    rcases firstP_cases (i : Int) l 0 with ⟨h1, _⟩ | ⟨p, h1, _⟩
    · rw [if_pos h1, if_neg (by omega), h1]
    · rw [if_neg (by omega)]
/-- the numbers of all pages -/
def numL (pages : Nat) (l : List Int) : List Int := l ++ List.replicate (pages - l.length) (-1)
theorem numL_len {pages : Nat} {l : List Int} (h : l.length ≤ pages) : (numL pages l).length = pages := by simp [numL]; omega
theorem numL_set {pages : Nat} {l : List Int} {p : Nat} {x : Int} (hp : p < l.length) : (numL pages l).set p x = numL pages (l.set p x) := by
  unfold numL
  rw [List.set_append_left _ _ hp, List.length_set]
theorem numL_snoc {pages : Nat} {l : List Int} (h : l.length < pages) (x : Int) : (numL pages l).set l.length x = numL pages (l ++ [x]) := by
  unfold numL
  rw [List.set_append_right _ _ (Nat.le_refl _), Nat.sub_self, List.append_assoc]
  congr 1
  obtain ⟨d, hd⟩ : ∃ d, pages - l.length = d + 1 := ⟨pages - l.length - 1, by omega⟩
  rw [hd, List.replicate_succ, List.set_cons_zero, List.length_append, List.length_singleton, show pages - (l.length + 1) = d by omega]
  rfl
theorem numL_at {pages : Nat} {l : List Int} {p : Nat} (hp : p < pages) (hl : l.length ≤ pages) : ∃ x, (numL pages l)[p]? = some x := ⟨_, List.getElem?_eq_getElem (by rw [numL_len hl]; exact hp)⟩
theorem numL_nil (pages : Nat) : numL pages [] = List.replicate pages (-1) := by simp [numL]
end Rmp
end Go.Proofs.Ytcndddjnlnigeaa
