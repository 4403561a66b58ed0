/-
  Plain law of RunsFind: the program's and the reference's test of a list of runs are one.
-/
import Derived.Test.YtfljbiobiobamaaRunsF
namespace Go.Proofs.Ytfljbiobiobamaa
open Go.RowKit
namespace Runs

def chk : Option R → R → Bool
  | none, _ => true
  | some p, r => !(decide (r.at_ < wrap64 (p.at_ + p.many))) && !contB p r
def rightR : Option R → List R → Bool
  | _, [] => true
  | p, r :: t => (oneB r && chk p r) && rightR (some r) t

theorem okAt_here (pre : List R) (r : R) (t : List R) : okAt (pre ++ r :: t) pre.length = (oneB r && chk pre.getLast? r) := by
  unfold okAt
  rw [List.getElem?_append_right (Nat.le_refl _), Nat.sub_self, List.getElem?_cons_zero]
  simp only
  congr 1
  cases hk : pre.length with
  | zero =>
    obtain rfl : pre = [] := List.length_eq_zero_iff.1 hk
    rfl
  | succ k =>
    have hl : pre.getLast? = pre[k]? := by rw [List.getLast?_eq_getElem?, hk]; rfl
    have hg : pre[k]? = some (pre[k]'(by omega)) := List.getElem?_eq_getElem _
    simp only
    rw [List.getElem?_append_left (by omega), hl, hg]
    rfl

theorem all_rightR (l : List R) : ∀ pre : List R, ((List.range l.length).all fun j => okAt (pre ++ l) (pre.length + j)) = rightR pre.getLast? l := by
  induction l with
  | nil => intro pre; rfl
  | cons r t ih =>
    intro pre
    rw [List.length_cons, List.range_succ_eq_map, List.all_cons, List.all_map, rightR, Nat.add_zero, okAt_here]
    congr 1
    have h := ih (pre ++ [r])
    rw [List.getLast?_append, List.getLast?_singleton, Option.some_or] at h
    rw [← h]
    congr 1
    funext j
    simp only [Function.comp, List.append_assoc, List.cons_append, List.nil_append, List.length_append, List.length_cons, List.length_nil]
    congr 1
    omega

theorem rightB_eq (l : List R) : rightB l = rightR none l := by
  have := all_rightR l []
  simpa [rightB] using this

theorem wrap_small {a b : Int} (ha : 0 ≤ a) (ha' : a ≤ 1099511627776) (hb : 1 ≤ b) (hb' : b ≤ 1099511627776) : wrap64 (a + b) = a + b := IntWalk.wrap64_in _ ⟨by omega, by omega⟩

theorem mr_eq (l : List R) : ∀ (p : Option R) (e d : Int), (p = none ∧ e = -1 ∧ d = 0 ∨ ∃ q, p = some q ∧ Small q ∧ e = q.at_ + q.many ∧ d = q.disk + q.many) → mr e d l = rightR p l := by
  induction l with
  | nil => intros; rfl
  | cons r t ih =>
    intro p e d h
    rw [mr, rightR]
    cases ho : oneB r with
    | false =>
      have : badB r e d = true := by
        simp [oneB] at ho
        simp [badB]
        omega
      simp [this]
    | true =>
      have hs := small_of_one ho
      obtain ⟨s1, s2, s3, s4, s5, s6⟩ := hs
      rw [← ih (some r) _ _ (.inr ⟨r, rfl, ⟨s1, s2, s3, s4, s5, s6⟩, rfl, rfl⟩)]
      have hb : badB r e d = !chk p r := by
        rcases h with ⟨rfl, rfl, rfl⟩ | ⟨q, rfl, ⟨q1, q2, q3, q4, q5, q6⟩, rfl, rfl⟩
        · simp [badB, chk]
          omega
        · simp only [chk, contB, wrap_small q1 q2 q5 q6, wrap_small q3 q4 q5 q6]
          rw [Bool.eq_iff_iff]
          simp [badB]
          omega
      rw [hb]
      cases chk p r <;> simp

theorem mr_right (l : List R) : mr (-1) 0 l = rightB l := by rw [rightB_eq]; exact mr_eq l none _ _ (.inl ⟨rfl, rfl, rfl⟩)

theorem findL_range {block : Int} {l : List R} {d : Int} (hs : ∀ r ∈ l, Small r) (h : findL block l = some d) : 0 ≤ d ∧ d ≤ 2199023255552 := by
  induction l with
  | nil => cases h
  | cons r t ih =>
    rw [findL] at h
    split at h
    · have := hs r (by simp)
      unfold Small at this
      injection h with h
      omega
    · exact ih (fun x hx => hs x (by simp [hx])) h

end Runs
end Go.Proofs.Ytfljbiobiobamaa
