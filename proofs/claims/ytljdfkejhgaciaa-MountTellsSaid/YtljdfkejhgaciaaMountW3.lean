/-
  Walks of mount.Mount and of the reference's LMount.
-/
import Derived.Test.YtljdfkejhgaciaaMountW2
namespace Go.Proofs.Ytljdfkejhgaciaa
open Go.RowKit Go.Shelf
namespace Mount

/-- the mount, at most so many rounds -/
def mountN (ps : List Pg) : Nat → List Int → Int → List Int × Int × Int
  | 0, l, f => (l, f, 0)
  | q + 1, l, f =>
    match ps[(idxP f ps 0).toNat]? with
    | none => (l, f, 0)
    | some p => if idxP f ps 0 < 0 then (l, f, 0) else if p.bad then (zero16, 0, 2) else mountN ps q (setP l p) (wrap64 (f + 1))
def mountL (l : List Int) (f : Int) (ps : List Pg) : List Int × Int × Int := if f < 0 ∨ 1099511627776 < f then (zero16, 0, 2) else mountN ps (ps.length + 1) l f

theorem idx_cases (f : Int) : ∀ (ps : List Pg) (k : Nat), idxP f ps k = -1 ∨ ∃ j p, idxP f ps k = ((k + j : Nat) : Int) ∧ ps[j]? = some p ∧ hit f p = true
  | [], _ => .inl rfl
  | p :: ps, k => by
    rw [idxP]
    split
    · rename_i h
      exact .inr ⟨0, p, by simp, rfl, h⟩
    · rcases idx_cases f ps (k + 1) with h | ⟨j, q, h1, h2, h3⟩
      · exact .inl h
      · exact .inr ⟨j + 1, q, by rw [h1]; congr 1; omega, by simpa using h2, h3⟩

/-- how many pages lie at rank j or beyond, counted from f0 on -/
def left (f0 : Int) (ps : List Pg) (j : Nat) : Nat := (ps.filter fun p => decide ((j : Int) ≤ (p.seq - f0) % 18446744073709551616)).length
theorem left_le (f0 : Int) (ps : List Pg) (j : Nat) : left f0 ps j ≤ ps.length := List.length_filter_le _ _
theorem left_next {f0 : Int} {ps : List Pg} {j : Nat} (p : Pg) (hp : p ∈ ps) (h : (p.seq - f0) % 18446744073709551616 = (j : Int)) : left f0 ps (j + 1) < left f0 ps j := by
  unfold left
  induction ps with
  | nil => cases hp
  | cons q qs ih =>
    have mono : ∀ l : List Pg, (l.filter fun p => decide (((j + 1 : Nat) : Int) ≤ (p.seq - f0) % 18446744073709551616)).length ≤ (l.filter fun p => decide ((j : Int) ≤ (p.seq - f0) % 18446744073709551616)).length := by
      intro l
      induction l with
      | nil => simp
      | cons a l ihl =>
        simp only [List.filter_cons]
        by_cases h1 : ((j + 1 : Nat) : Int) ≤ (a.seq - f0) % 18446744073709551616
        · have h2 : (j : Int) ≤ (a.seq - f0) % 18446744073709551616 := by omega
          simp only [h1, h2, decide_true, if_true, List.length_cons]
          omega
        · by_cases h2 : (j : Int) ≤ (a.seq - f0) % 18446744073709551616
          · simp only [h1, h2, decide_true, decide_false, if_true, Bool.false_eq_true, if_false, List.length_cons]
            omega
          · simp only [h1, h2, decide_false, Bool.false_eq_true, if_false]
            exact ihl
    rcases List.mem_cons.1 hp with rfl | hq
    · have h1 : ¬ ((j + 1 : Nat) : Int) ≤ (p.seq - f0) % 18446744073709551616 := by omega
      have h2 : (j : Int) ≤ (p.seq - f0) % 18446744073709551616 := by omega
      have := mono qs
      simp only [List.filter_cons, h1, h2, decide_true, decide_false, if_true, Bool.false_eq_true, if_false, List.length_cons]
      omega
    · have := ih hq
      simp only [List.filter_cons]
      by_cases h1 : ((j + 1 : Nat) : Int) ≤ (q.seq - f0) % 18446744073709551616
      · have h2 : (j : Int) ≤ (q.seq - f0) % 18446744073709551616 := by omega
        simp only [h1, h2, decide_true, if_true, List.length_cons]
        omega
      · by_cases h2 : (j : Int) ≤ (q.seq - f0) % 18446744073709551616
        · simp only [h1, h2, decide_true, decide_false, if_true, Bool.false_eq_true, if_false, List.length_cons]
          omega
        · simp only [h1, h2, decide_false, Bool.false_eq_true, if_false]
          exact this
theorem rank_of {f0 f s : Int} {j : Nat} (hf : f = wrap64 (f0 + j)) (hj : j ≤ 9223372036854775807) (hs : s = f) : (s - f0) % 18446744073709551616 = (j : Int) := by
  subst hs hf
  unfold wrap64
  omega
theorem wrap_next {f0 f : Int} {j : Nat} (hf : f = wrap64 (f0 + j)) : wrap64 (f + 1) = wrap64 (f0 + ((j + 1 : Nat) : Int)) := by
  subst hf
  unfold wrap64
  omega
theorem mount_stop {ps : List Pg} {q : Nat} {l : List Int} {f : Int} (h : idxP f ps 0 = -1) : mountN ps (q + 1) l f = (l, f, 0) := by
  rw [mountN, h]
  split <;> simp
theorem mount_bad {ps : List Pg} {q j : Nat} {l : List Int} {f : Int} {p : Pg} (h : idxP f ps 0 = (j : Int)) (hp : ps[j]? = some p) (hb : p.bad = true) : mountN ps (q + 1) l f = (zero16, 0, 2) := by
  rw [mountN, h]
  simp only [Int.toNat_natCast, hp]
  rw [if_neg (by omega), if_pos hb]
theorem mount_go {ps : List Pg} {q j : Nat} {l : List Int} {f : Int} {p : Pg} (h : idxP f ps 0 = (j : Int)) (hp : ps[j]? = some p) (hb : p.bad = false) : mountN ps (q + 1) l f = mountN ps q (setP l p) (wrap64 (f + 1)) := by
  rw [mountN, h]
  simp only [Int.toNat_natCast, hp]
  rw [if_neg (by omega), hb, if_neg (by simp)]
end Mount
end Go.Proofs.Ytljdfkejhgaciaa
