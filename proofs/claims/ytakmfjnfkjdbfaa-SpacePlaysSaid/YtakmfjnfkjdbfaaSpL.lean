/-
  The plain law of a step on free blocks. Conditions: none beyond each theorem's own premises.
-/
import Derived.Test.YtakmfjnfkjdbfaaDelIns
import Derived.Test.YtakmfjnfkjdbfaaSpW4
namespace Go.Proofs.Ytakmfjnfkjdbfaa
open Go.RowKit
set_option linter.unusedVariables false
namespace Sp

def hitsB (l : List N) (a m : Nat) : Bool := l.any fun x => decide (x.a < a + m) && decide (a < x.a + x.m)
def giveP (l : List N) (a m : Nat) : List N × N := l.foldl giveStep ([], ⟨a, m⟩)
def giveL (l : List N) (a m : Nat) : List N := ins (giveP l a m).2 (giveP l a m).1
/-- what a step answers: the gaps, what is wrong, where -/
def stepL (S : Nat) (l : List N) (kind at' many : Int) : List N × Int × Int :=
  if kind < 1 ∨ 3 < kind then ([], 5, 0)
  else if many < 1 ∨ (S : Int) < many then ([], 2, 0)
  else if kind = 3 then
    (if at' < 0 ∨ (S : Int) - many < at' then ([], 2, 0)
     else if hitsB l at'.toNat many.toNat then ([], 6, 0)
     else (giveL l at'.toNat many.toNat, 0, at'))
  else match chAll many.toNat (kind == 2) l l.length with
    | none => ([], 4, 0)
    | some p => (takeL l p.1 many.toNat, 0, (p.2.a : Int))

theorem ok_len {S : Nat} : ∀ (l : List N) (lo : Nat), Ok S lo l → l.length ≤ S - lo
  | [], _, _ => Nat.zero_le _
  | g :: t, lo, h => by
    obtain ⟨h1, h2, h3, h4⟩ := h
    have := ok_len t _ h4
    rw [List.length_cons]
    omega
theorem ok_mem {S lo : Nat} {l : List N} (h : Ok S lo l) : ∀ x ∈ l, 1 ≤ x.m ∧ x.a + x.m ≤ S := fun x hx => ((ok_iff.1 h).2 x hx).2
theorem hits_no {l : List N} {a m : Nat} (h : hitsB l a m = false) : ∀ x ∈ l, x.a + x.m ≤ a ∨ a + m ≤ x.a := fun x hx => by
  have := List.any_eq_false.1 h x hx
  simp at this
  omega
theorem give_law {S : Nat} {l : List N} {a m : Nat} (h : Ok S 0 l) (hm : 1 ≤ m) (ha : a + m ≤ S) (hh : hitsB l a m = false) :
    Ok S 0 (giveL l a m) ∧ ∀ k, mem (giveL l a m) k = (mem l k || inG ⟨a, m⟩ k) := by
  obtain ⟨out, g, h1, h2, h3, h4, h5, h6⟩ := give_all l [] ⟨a, m⟩ h hm ha (by simp) (hits_no hh)
  have e : giveP l a m = (out, g) := h1
  unfold giveL
  rw [e]
  obtain ⟨h7, h8⟩ := ins_ok (size := S) h3 h4 out 0 h2 (Nat.zero_le _) h5
  exact ⟨h7, fun k => by rw [h8, h6]; rfl⟩
theorem take_set (m : Nat) (g : N) : ∀ (l : List N) (i : Nat), l[i]? = some g → takeL l i m = if g.m = m then l.take i ++ l.drop (i + 1) else l.set i ⟨g.a + m, g.m - m⟩
  | [], i, h => by simp at h
  | x :: t, 0, h => by
    simp at h
    subst h
    simp [takeL]
  | x :: t, i + 1, h => by
    rw [takeL, take_set m g t i (by simpa using h)]
    split <;> simp
theorem hits_iff {S : Nat} {l : List N} {a m : Nat} (h : Ok S 0 l) (hm1 : 1 ≤ m) : hitsB l a m = true ↔ ∃ j, j < m ∧ mem l (a + j) = true := by
  constructor
  · intro hh
    obtain ⟨x, hx, h1⟩ := List.any_eq_true.1 hh
    simp only [Bool.and_eq_true, decide_eq_true_eq] at h1
    have h2 := ok_mem h x hx
    refine ⟨max x.a a - a, ?_, List.any_eq_true.2 ⟨x, hx, ?_⟩⟩
    · simp only [Nat.max_def]; split <;> omega
    · simp only [Bool.and_eq_true, decide_eq_true_eq, Nat.max_def]
      split <;> omega
  · rintro ⟨j, hj, h1⟩
    obtain ⟨x, hx, h2⟩ := List.any_eq_true.1 h1
    simp only [Bool.and_eq_true, decide_eq_true_eq] at h2
    exact List.any_eq_true.2 ⟨x, hx, by simp; omega⟩

def StepRet (w : World) (p : List N × Int × Int) (e : Ending) (w' : World) : Prop :=
  ∃ A c, p.1.length ≤ c ∧ e = .returned (.tuple #[.slice A p.1.length c, .agg #[.int .i64 p.2.1, .int .i64 p.2.2]]) ∧ Sep w w' [.row 50 2 (.slice A p.1.length c) p.1.length (p.1.flatMap ncells)]
theorem gap_one (l : List N) : ∀ u ∈ l.flatMap ncells, u.oneCell' = true := by
  intro u hu
  obtain ⟨x, _, hx⟩ := List.mem_flatMap.1 hu
  simp [ncells, G.of, G.cells] at hx
  rcases hx with rfl | rfl <;> rfl
theorem cell_gap {l : List N} {k : Nat} {x : N} (h : l[k]? = some x) : (l.flatMap ncells)[k * 2]? = some (.int .i64 (x.a : Int)) ∧ (l.flatMap ncells)[k * 2 + 1]? = some (.int .i64 (x.m : Int)) :=
  ⟨flat_get ncells_len l k 0 x h (by omega), flat_get ncells_len l k 1 x h (by omega)⟩
end Sp
end Go.Proofs.Ytakmfjnfkjdbfaa
