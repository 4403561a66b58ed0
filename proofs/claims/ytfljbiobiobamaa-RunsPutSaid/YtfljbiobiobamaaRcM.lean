/-
  Runs in order: what they say of each block tells them; runs without some blocks. Conditions: none beyond each theorem's own premises.
-/
import Derived.Test.YtfljbiobiobamaaRunsP
namespace Go.Proofs.Ytfljbiobiobamaa
namespace Runs
set_option linter.unusedVariables false
/-- the disk block of a block -/
def fn (x : Int) : List R → Option Int
  | [] => none
  | r :: t => if r.at_ ≤ x ∧ x < r.at_ + r.many then some (r.disk + (x - r.at_)) else fn x t
/-- runs in order behind p, none continuing the one ahead of it -/
def NF : Option R → List R → Prop
  | _, [] => True
  | p, r :: t => 1 ≤ r.many ∧ (∀ q, p = some q → q.at_ + q.many ≤ r.at_ ∧ ¬ (q.at_ + q.many = r.at_ ∧ q.disk + q.many = r.disk)) ∧ NF (some r) t
theorem fn_in {r : R} {t : List R} {x : Int} (h1 : r.at_ ≤ x) (h2 : x < r.at_ + r.many) : fn x (r :: t) = some (r.disk + (x - r.at_)) := by
  simp only [fn]; rw [if_pos ⟨h1, h2⟩]
theorem fn_out {r : R} {t : List R} {x : Int} (h : x < r.at_ ∨ r.at_ + r.many ≤ x) : fn x (r :: t) = fn x t := by
  simp only [fn]; rw [if_neg (by omega)]
theorem fn_lo : ∀ {l : List R} {q : R} {x : Int}, NF (some q) l → x < q.at_ + q.many → fn x l = none
  | [], _, _, _, _ => rfl
  | r :: t, q, x, h, hx => by
    obtain ⟨h1, h2, h3⟩ := h
    have h4 := (h2 q rfl).1
    rw [fn_out (.inl (by omega))]
    exact fn_lo h3 (by omega)
theorem fn_end : ∀ {l : List R} {q : R}, NF (some q) l → fn (q.at_ + q.many) l ≠ some (q.disk + q.many)
  | [], _, _ => by simp [fn]
  | r :: t, q, h => by
    obtain ⟨h1, h2, h3⟩ := h
    obtain ⟨h4, h5⟩ := h2 q rfl
    by_cases e : q.at_ + q.many = r.at_
    · rw [fn_in (by omega) (by omega)]
      intro hh
      have hh := Option.some.inj hh
      exact h5 ⟨e, by omega⟩
    · rw [fn_out (.inl (by omega)), fn_lo h3 (by omega)]
      simp
theorem nf_head {r r' : R} {t t' : List R} {p p' : Option R} (h : NF p (r :: t)) (h' : NF p' (r' :: t')) (hf : ∀ x, fn x (r :: t) = fn x (r' :: t')) : r'.at_ ≤ r.at_ := by
  obtain ⟨h1, _, h3⟩ := h
  obtain ⟨h1', _, h3'⟩ := h'
  rcases Int.lt_or_le r.at_ r'.at_ with e | e
  · have := hf r.at_
    rw [fn_in (Int.le_refl _) (by omega), fn_out (.inl e), fn_lo h3' (by omega)] at this
    cases this
  · exact e
theorem nf_many {r r' : R} {t t' : List R} {p p' : Option R} (h : NF p (r :: t)) (h' : NF p' (r' :: t')) (hf : ∀ x, fn x (r :: t) = fn x (r' :: t')) (ha : r.at_ = r'.at_) (hd : r.disk = r'.disk) : r'.many ≤ r.many := by
  obtain ⟨h1, _, h3⟩ := h
  rcases Int.lt_or_le r.many r'.many with e | e
  · have := hf (r.at_ + r.many)
    rw [fn_out (.inr (by omega)), fn_in (r := r') (by omega) (by omega)] at this
    exact absurd (this.trans (by congr 1; omega)) (fn_end h3)
  · exact e
/-- two lists in order that say the same of each block are one -/
theorem nf_one : ∀ (l l' : List R) (p p' : Option R), NF p l → NF p' l' → (∀ x, fn x l = fn x l') → l = l'
  | [], [], _, _, _, _, _ => rfl
  | [], r' :: t', _, _, _, h', hf => by
    have := hf r'.at_
    rw [fn_in (Int.le_refl _) (by have := h'.1; omega)] at this
    cases this
  | r :: t, [], _, _, h, _, hf => by
    have := hf r.at_
    rw [fn_in (Int.le_refl _) (by have := h.1; omega)] at this
    cases this
  | r :: t, r' :: t', p, p', h, h', hf => by
    have ea : r.at_ = r'.at_ := Int.le_antisymm (nf_head h' h (fun x => (hf x).symm)) (nf_head h h' hf)
    have ed : r.disk = r'.disk := by
      have := hf r.at_
      rw [fn_in (Int.le_refl _) (by have := h.1; omega), fn_in (r := r') (by omega) (by have := h'.1; omega)] at this
      have := Option.some.inj this
      omega
    have em : r.many = r'.many := Int.le_antisymm (nf_many h' h (fun x => (hf x).symm) ea.symm ed.symm) (nf_many h h' hf ea ed)
    have er : r = r' := by cases r; cases r'; simp_all
    subst er
    rw [nf_one t t' _ _ h.2.2 h'.2.2 (fun x => by
      rcases Int.lt_or_le x (r.at_ + r.many) with e | e
      · rw [fn_lo h.2.2 e, fn_lo h'.2.2 e]
      · have := hf x
        rwa [fn_out (.inr e), fn_out (.inr e)] at this)]
/-- what is left of a run ahead of s, and behind e -/
def lo1 (s : Int) (r : R) : List R := if 0 < min r.many (s - r.at_) then [⟨r.at_, r.disk, min r.many (s - r.at_)⟩] else []
def hi1 (e : Int) (r : R) : List R := if 0 < min r.many (r.at_ + r.many - e) then [⟨r.at_ + (r.many - min r.many (r.at_ + r.many - e)), r.disk + (r.many - min r.many (r.at_ + r.many - e)), min r.many (r.at_ + r.many - e)⟩] else []
def cutL (s e : Int) (l : List R) : List R := l.flatMap fun r => lo1 s r ++ hi1 e r
theorem cut_nil (s e : Int) : cutL s e [] = [] := rfl
theorem cut_cons (s e : Int) (r : R) (t : List R) : cutL s e (r :: t) = lo1 s r ++ (hi1 e r ++ cutL s e t) := by
  rw [cutL, List.flatMap_cons, List.append_assoc]; rfl
theorem fn_cut {s e : Int} (hse : s < e) (x : Int) : ∀ l : List R, (∀ r ∈ l, 1 ≤ r.many) → fn x (cutL s e l) = if s ≤ x ∧ x < e then none else fn x l
  | [], _ => by simp [cut_nil, fn]
  | r :: t, h => by
    have h1 := h r (by simp)
    have ih := fn_cut hse x t (fun r hr => h r (by simp [hr]))
    rw [cut_cons]
    have hA : ∀ L, fn x (lo1 s r ++ L) = if r.at_ ≤ x ∧ x < r.at_ + r.many ∧ x < s then some (r.disk + (x - r.at_)) else fn x L := fun L => by
      unfold lo1
      split
      · rw [List.singleton_append]
        simp only [fn]
        split <;> split <;> first | rfl | omega
      · rw [List.nil_append, if_neg (by omega)]
    have hB : ∀ L, fn x (hi1 e r ++ L) = if r.at_ ≤ x ∧ x < r.at_ + r.many ∧ e ≤ x then some (r.disk + (x - r.at_)) else fn x L := fun L => by
      unfold hi1
      split
      · rw [List.singleton_append]
        simp only [fn]
        split <;> split <;> first | rfl | omega | (congr 1; omega)
      · rw [List.nil_append, if_neg (by omega)]
    rw [hA, hB, ih]
    simp only [fn]
    repeat' split
    all_goals first | rfl | omega
theorem nf_cut {s e : Int} (hse : s < e) : ∀ (l : List R) (p p' : Option R), NF p l →
    (∀ q', p' = some q' → ∃ q, p = some q ∧ q'.at_ + q'.many ≤ q.at_ + q.many ∧ (q'.at_ + q'.many = q.at_ + q.many → q'.disk + q'.many = q.disk + q.many)) → NF p' (cutL s e l)
  | [], _, _, _, _ => trivial
  | r :: t, p, p', h, hp => by
    obtain ⟨h1, h2, h3⟩ := h
    have hq : ∀ q', p' = some q' → q'.at_ + q'.many ≤ r.at_ ∧ ¬ (q'.at_ + q'.many = r.at_ ∧ q'.disk + q'.many = r.disk) := fun q' e' => by
      obtain ⟨q, e1, e2, e3⟩ := hp q' e'
      obtain ⟨e4, e5⟩ := h2 q e1
      refine ⟨by omega, fun ⟨e6, e7⟩ => e5 ⟨by omega, ?_⟩⟩
      have := e3 (by omega)
      omega
    rw [cut_cons]
    unfold lo1 hi1
    by_cases c1 : 0 < min r.many (s - r.at_) <;> by_cases c2 : 0 < min r.many (r.at_ + r.many - e)
    · rw [if_pos c1, if_pos c2]
      refine ⟨by simp only; omega, hq, by simp only; omega, ?_, nf_cut hse t (some r) _ h3 ?_⟩
      · rintro q ⟨⟩
        simp only
        omega
      · rintro q ⟨⟩
        exact ⟨r, rfl, by simp only; omega, by simp only; omega⟩
    · rw [if_pos c1, if_neg c2]
      refine ⟨by simp only; omega, hq, nf_cut hse t (some r) _ h3 ?_⟩
      rintro q ⟨⟩
      exact ⟨r, rfl, by simp only; omega, by simp only; omega⟩
    · rw [if_neg c1, if_pos c2]
      refine ⟨by simp only; omega, fun q' e' => ?_, nf_cut hse t (some r) _ h3 ?_⟩
      · have := hq q' e'
        simp only
        omega
      · rintro q ⟨⟩
        exact ⟨r, rfl, by simp only; omega, by simp only; omega⟩
    · rw [if_neg c1, if_neg c2]
      refine nf_cut hse t (some r) _ h3 fun q' e' => ⟨r, rfl, ?_, ?_⟩
      · have := hq q' e'; omega
      · have := hq q' e'; omega
/-- runs in order behind p -/
def Od : Option R → List R → Prop
  | _, [] => True
  | p, r :: t => 1 ≤ r.many ∧ (∀ q, p = some q → q.at_ + q.many ≤ r.at_) ∧ Od (some r) t
/-- neighbours that continue each other made one -/
def join : List R → List R
  | [] => []
  | [a] => [a]
  | a :: b :: t => if a.at_ + a.many = b.at_ ∧ a.disk + a.many = b.disk then join (⟨a.at_, a.disk, a.many + b.many⟩ :: t) else a :: join (b :: t)
termination_by l => l.length
theorem od_lo : ∀ {l : List R} {q : R} {x : Int}, Od (some q) l → x < q.at_ + q.many → fn x l = none
  | [], _, _, _, _ => rfl
  | r :: t, q, x, h, hx => by
    obtain ⟨h1, h2, h3⟩ := h
    have h4 := h2 q rfl
    rw [fn_out (.inl (by omega))]
    exact od_lo h3 (by omega)
theorem od_same {q q' : R} (h : q'.at_ + q'.many = q.at_ + q.many) : ∀ {l : List R}, Od (some q) l → Od (some q') l
  | [], _ => trivial
  | r :: t, ⟨h1, h2, h3⟩ => ⟨h1, fun y e => by cases e; have := h2 q rfl; omega, h3⟩
theorem fn_join (x : Int) : ∀ (n : Nat) (l : List R) (p : Option R), l.length = n → Od p l → fn x (join l) = fn x l
  | _, [], _, _, _ => by rw [join]
  | _, [a], _, _, _ => by rw [join]
  | 0, _ :: _ :: _, _, h, _ => by simp at h
  | n + 1, a :: b :: t, p, hl, h => by
    obtain ⟨h1, h2, h3, h4, h5⟩ := h
    have h4 := h4 a rfl
    rw [join]
    split
    case isTrue hc =>
      rw [fn_join x n (⟨a.at_, a.disk, a.many + b.many⟩ :: t) p (by simpa using hl) ⟨by simp only; omega, h2, od_same (by simp only; omega) h5⟩]
      simp only [fn]
      repeat' split
      all_goals first | rfl | omega | (congr 1; omega)
    case isFalse hc =>
      have ih := fn_join x n (b :: t) (some a) (by simpa using hl) ⟨h3, fun y e => by cases e; exact h4, h5⟩
      simp only [fn] at ih ⊢
      rw [ih]
theorem nf_join : ∀ (n : Nat) (l : List R) (p : Option R), l.length = n → Od p l → (∀ q r t, p = some q → l = r :: t → ¬ (q.at_ + q.many = r.at_ ∧ q.disk + q.many = r.disk)) → NF p (join l)
  | _, [], _, _, _, _ => by rw [join]; trivial
  | _, [a], _, _, h, hc => by rw [join]; exact ⟨h.1, fun q e => ⟨h.2.1 q e, hc q a [] e rfl⟩, trivial⟩
  | 0, _ :: _ :: _, _, h, _, _ => by simp at h
  | n + 1, a :: b :: t, p, hl, h, hc => by
    obtain ⟨h1, h2, h3, h4, h5⟩ := h
    have h4' := h4 a rfl
    rw [join]
    split
    case isTrue hd =>
      exact nf_join n (⟨a.at_, a.disk, a.many + b.many⟩ :: t) p (by simpa using hl) ⟨by simp only; omega, h2, od_same (by simp only; omega) h5⟩ (fun q r t' e e' => by cases e'; exact hc q a (b :: t) e rfl)
    case isFalse hd =>
      exact ⟨h1, fun q e => ⟨h2 q e, hc q a (b :: t) e rfl⟩, nf_join n (b :: t) (some a) (by simpa using hl) ⟨h3, fun y e => by cases e; exact h4', h5⟩ (fun q r t' e e' => by cases e; cases e'; exact hd)⟩
theorem fn_mem {x v : Int} : ∀ {l : List R}, fn x l = some v → ∃ r ∈ l, r.at_ ≤ x ∧ x < r.at_ + r.many ∧ v = r.disk + (x - r.at_)
  | [], h => by simp [fn] at h
  | r :: t, h => by
    simp only [fn] at h
    split at h
    case isTrue hc => exact ⟨r, by simp, hc.1, hc.2, (Option.some.inj h).symm⟩
    case isFalse hc =>
      obtain ⟨y, hy, h2⟩ := fn_mem h
      exact ⟨y, by simp [hy], h2⟩
theorem od_mem {l : List R} : ∀ {q : R}, Od (some q) l → ∀ r ∈ l, q.at_ + q.many ≤ r.at_ := by
  induction l with
  | nil => intro q _ r hr; cases hr
  | cons a t ih =>
    intro q h r hr
    obtain ⟨h1, h2, h3⟩ := h
    have h2 := h2 q rfl
    rcases List.mem_cons.mp hr with rfl | hr
    · exact h2
    · have := ih h3 r hr; omega
theorem fn_of {x : Int} : ∀ {l : List R} {p : Option R}, Od p l → ∀ r ∈ l, r.at_ ≤ x → x < r.at_ + r.many → fn x l = some (r.disk + (x - r.at_))
  | a :: t, p, h, r, hr, h1, h2 => by
    rcases List.mem_cons.mp hr with rfl | hr
    · exact fn_in h1 h2
    · have h3 := od_mem h.2.2 r hr
      rw [fn_out (.inr (by omega))]
      exact fn_of h.2.2 r hr h1 h2
/-- two lists in order, of which each block that the one tells the other tells so too, say the same -/
theorem fn_same {l l' : List R} {p p' : Option R} (h : Od p l) (h' : Od p' l')
    (h1 : ∀ r ∈ l, ∀ x, r.at_ ≤ x → x < r.at_ + r.many → ∃ r' ∈ l', r'.at_ ≤ x ∧ x < r'.at_ + r'.many ∧ r'.disk - r'.at_ = r.disk - r.at_)
    (h2 : ∀ r ∈ l', ∀ x, r.at_ ≤ x → x < r.at_ + r.many → ∃ r' ∈ l, r'.at_ ≤ x ∧ x < r'.at_ + r'.many ∧ r'.disk - r'.at_ = r.disk - r.at_) (x : Int) : fn x l = fn x l' := by
  cases hx : fn x l with
  | some v =>
    obtain ⟨r, hr, e1, e2, e3⟩ := fn_mem hx
    obtain ⟨r', hr', e4, e5, e6⟩ := h1 r hr x e1 e2
    rw [fn_of h' r' hr' e4 e5]
    congr 1; omega
  | none =>
    cases hx' : fn x l' with
    | none => rfl
    | some v =>
      obtain ⟨r, hr, e1, e2, e3⟩ := fn_mem hx'
      obtain ⟨r', hr', e4, e5, e6⟩ := h2 r hr x e1 e2
      rw [fn_of h r' hr' e4 e5] at hx
      cases hx
theorem od_of_nf : ∀ {l : List R} {p : Option R}, NF p l → Od p l
  | [], _, _ => trivial
  | r :: t, p, h => ⟨h.1, fun q e => (h.2.1 q e).1, od_of_nf h.2.2⟩
/-- pieces sorted by where they begin are in order -/
theorem od_sorted : ∀ {l : List R} {p : Option R}, (∀ r ∈ l, 1 ≤ r.many) → (∀ q, p = some q → ∀ r ∈ l, q.at_ + q.many ≤ r.at_) → l.Pairwise (fun a b => a.at_ < b.at_) → (∀ a ∈ l, ∀ b ∈ l, a.at_ < b.at_ → a.at_ + a.many ≤ b.at_) → Od p l
  | [], _, _, _, _, _ => trivial
  | r :: t, p, h1, h2, h3, h4 => by
    rw [List.pairwise_cons] at h3
    exact ⟨h1 r (by simp), fun q e => h2 q e r (by simp), od_sorted (fun y hy => h1 y (by simp [hy])) (fun q e y hy => by cases e; exact h4 r (by simp) y (by simp [hy]) (h3.1 y hy)) h3.2 (fun a ha b hb => h4 a (by simp [ha]) b (by simp [hb]))⟩
theorem edge_lo {E : List Int} {x y0 : Int} (h : y0 ∈ E) (h0 : y0 ≤ x) : ∃ y ∈ E, y ≤ x ∧ ∀ z ∈ E, z ≤ x → z ≤ y := by
  induction E generalizing y0 with
  | nil => cases h
  | cons a t ih =>
    by_cases hex : ∃ b ∈ t, b ≤ x
    · obtain ⟨b, hb, hbx⟩ := hex
      obtain ⟨y, hy, h1, h2⟩ := ih hb hbx
      by_cases ha : a ≤ x ∧ y < a
      · exact ⟨a, by simp, ha.1, fun z hz hzx => by
          rcases List.mem_cons.mp hz with rfl | hz
          · omega
          · have := h2 z hz hzx; omega⟩
      · exact ⟨y, by simp [hy], h1, fun z hz hzx => by
          rcases List.mem_cons.mp hz with rfl | hz
          · omega
          · exact h2 z hz hzx⟩
    · rcases List.mem_cons.mp h with rfl | h
      · exact ⟨y0, by simp, h0, fun z hz hzx => by
          rcases List.mem_cons.mp hz with rfl | hz
          · omega
          · exact absurd ⟨z, hz, hzx⟩ hex⟩
      · exact absurd ⟨y0, h, h0⟩ hex
theorem edge_hi {E : List Int} {x y0 : Int} (h : y0 ∈ E) (h0 : x < y0) : ∃ y ∈ E, x < y ∧ ∀ z ∈ E, x < z → y ≤ z := by
  obtain ⟨y, hy, h1, h2⟩ := edge_lo (E := E.map (fun z => -z)) (x := -x - 1) (y0 := -y0) (List.mem_map.mpr ⟨y0, h, rfl⟩) (by omega)
  obtain ⟨z, hz, rfl⟩ := List.mem_map.mp hy
  exact ⟨z, hz, by omega, fun u hu hxu => by have := h2 (-u) (List.mem_map.mpr ⟨u, hu, rfl⟩) (by omega); omega⟩
/-- the piece from an edge to the next one, of which the runs c tell its first block -/
def Piece (E : List Int) (c : List R) (r : R) : Prop := r.at_ ∈ E ∧ r.at_ + r.many ∈ E ∧ 1 ≤ r.many ∧ (∀ y ∈ E, r.at_ < y → r.at_ + r.many ≤ y) ∧ fn r.at_ c = some r.disk
theorem fn_pieces {E : List Int} {c P : List R} {p p' : Option R} (hc : Od p c) (hE : ∀ r ∈ c, r.at_ ∈ E ∧ r.at_ + r.many ∈ E) (hP : Od p' P) (h : ∀ r, r ∈ P ↔ Piece E c r) (x : Int) : fn x P = fn x c := by
  refine fn_same hP hc ?_ ?_ x
  · intro r hr x e1 e2
    obtain ⟨h1, h2, h3, h4, h5⟩ := (h r).mp hr
    obtain ⟨r', hr', f1, f2, f3⟩ := fn_mem h5
    have := h4 _ (hE r' hr').2 f2
    exact ⟨r', hr', by omega, by omega, by omega⟩
  · intro r hr x e1 e2
    obtain ⟨y, hy, a1, a2⟩ := edge_lo (hE r hr).1 e1
    obtain ⟨z, hz, b1, b2⟩ := edge_hi (hE r hr).2 e2
    have a3 := a2 _ (hE r hr).1 e1
    refine ⟨⟨y, r.disk + (y - r.at_), z - y⟩, (h _).mpr ⟨hy, ?_, by simp only; omega, ?_, fn_of hc r hr a3 (by simp only; omega)⟩, a1, by simp only; omega, by simp only; omega⟩
    · rw [show y + (z - y) = z by omega]; exact hz
    · intro u hu hyu
      simp only at hyu ⊢
      have : ¬ u ≤ x := fun hux => by have := a2 u hu hux; omega
      have := b2 u hu (by omega)
      omega
theorem pieces_od {E : List Int} {c : List R} {P : List R} (h : ∀ r ∈ P, Piece E c r) (hs : P.Pairwise (fun a b => a.at_ < b.at_)) : Od none P :=
  od_sorted (fun r hr => (h r hr).2.2.1) (fun _ e => by cases e) hs (fun a ha b hb hab => (h a ha).2.2.2.1 _ (h b hb).1 hab)
/-- the pieces in order, joined, are the runs themselves -/
theorem join_pieces {E : List Int} {c P : List R} (hc : NF none c) (hE : ∀ r ∈ c, r.at_ ∈ E ∧ r.at_ + r.many ∈ E) (h : ∀ r, r ∈ P ↔ Piece E c r) (hs : P.Pairwise (fun a b => a.at_ < b.at_)) : join P = c := by
  have ho := pieces_od (fun r hr => (h r).mp hr) hs
  exact nf_one _ _ none none (nf_join _ P none rfl ho (fun _ _ _ e => by cases e)) hc (fun x => by
    rw [fn_join x _ P none rfl ho, fn_pieces (od_of_nf hc) hE ho h x])
/-- the insertion that the reference's inner loop does -/
def insR (a : R) : List R → List R
  | [] => [a]
  | b :: t => if a.at_ < b.at_ then a :: b :: t else b :: insR a t
def srt (l : List R) : List R := l.foldl (fun acc a => insR a acc) []
theorem insR_mem {a x : R} : ∀ {l : List R}, x ∈ insR a l ↔ x = a ∨ x ∈ l
  | [] => by simp [insR]
  | b :: t => by
    simp only [insR]
    split
    · simp
    · rw [List.mem_cons, insR_mem, List.mem_cons]
      constructor
      · rintro (h | h | h) <;> simp [h]
      · rintro (h | h | h) <;> simp [h]
theorem insR_lt {a : R} : ∀ {l : List R}, l.Pairwise (fun a b => a.at_ < b.at_) → (∀ b ∈ l, b.at_ ≠ a.at_) → (insR a l).Pairwise (fun a b => a.at_ < b.at_)
  | [], _, _ => by simp [insR]
  | b :: t, h, hn => by
    have h0 := h
    rw [List.pairwise_cons] at h
    simp only [insR]
    split
    case isTrue hc =>
      rw [List.pairwise_cons]
      exact ⟨fun y hy => by
        rcases List.mem_cons.mp hy with rfl | hy
        · exact hc
        · have := h.1 y hy; omega, h0⟩
    case isFalse hc =>
      rw [List.pairwise_cons]
      refine ⟨fun y hy => ?_, insR_lt h.2 (fun y hy => hn y (by simp [hy]))⟩
      rcases insR_mem.mp hy with rfl | hy
      · have := hn b (by simp); omega
      · exact h.1 y hy
end Runs
end Go.Proofs.Ytfljbiobiobamaa
