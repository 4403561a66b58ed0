/-
  The plain law of free blocks: gaps as a list, and as a row of Booleans. Conditions: none beyond each theorem's own premises.
-/
import Derived.Test.YtakmfjnfkjdbfaaRows
namespace Go.Proofs.Ytakmfjnfkjdbfaa
namespace Sp
set_option linter.unusedVariables false

/-- a gap: where, and how many -/
structure N where
  (a m : Nat)
/-- gaps from lo on, below size, apart -/
def Ok (size : Nat) : Nat → List N → Prop
  | _, [] => True
  | lo, g :: t => lo ≤ g.a ∧ 1 ≤ g.m ∧ g.a + g.m ≤ size ∧ Ok size (g.a + g.m + 1) t
/-- is block k free? -/
def mem (l : List N) (k : Nat) : Bool := l.any fun g => decide (g.a ≤ k) && decide (k < g.a + g.m)
theorem mem_cons (g : N) (t : List N) (k : Nat) : mem (g :: t) k = (decide (g.a ≤ k) && decide (k < g.a + g.m) || mem t k) := rfl
theorem ok_mono {size : Nat} : ∀ {l : List N} {lo lo' : Nat}, Ok size lo l → lo' ≤ lo → Ok size lo' l
  | [], _, _, _, _ => trivial
  | g :: t, _, _, h, hl => ⟨Nat.le_trans hl h.1, h.2⟩
theorem mem_low {size : Nat} : ∀ (l : List N) (lo k : Nat), Ok size lo l → k < lo → mem l k = false
  | [], _, _, _, _ => rfl
  | g :: t, lo, k, h, hk => by
    obtain ⟨h1, h2, h3, h4⟩ := h
    rw [mem_cons, mem_low t _ k h4 (by omega), show decide (g.a ≤ k) = false by simp; omega]
    rfl

/-- the row from p on -/
def seg (size : Nat) : Nat → List N → List Bool
  | p, [] => List.replicate (size - p) false
  | p, g :: t => List.replicate (g.a - p) false ++ (List.replicate g.m true ++ seg size (g.a + g.m) t)
theorem seg_len {size : Nat} : ∀ (l : List N) (p : Nat), Ok size p l → p ≤ size → (seg size p l).length = size - p
  | [], p, _, _ => by simp [seg]
  | g :: t, p, h, hp => by
    obtain ⟨h1, h2, h3, h4⟩ := h
    rw [seg, List.length_append, List.length_append, List.length_replicate, List.length_replicate, seg_len t _ (ok_mono h4 (by omega)) h3]
    omega
theorem seg_at {size : Nat} : ∀ (l : List N) (p k : Nat), Ok size p l → p ≤ size → p + k < size → (seg size p l)[k]? = some (mem l (p + k))
  | [], p, k, _, hp, hk => by
    rw [seg, List.getElem?_replicate, if_pos (by omega)]
    rfl
  | g :: t, p, k, h, hp, hk => by
    obtain ⟨h1, h2, h3, h4⟩ := h
    rw [seg, mem_cons]
    by_cases hk1 : k < g.a - p
    · rw [List.getElem?_append_left (by simpa using hk1), List.getElem?_replicate, if_pos hk1, mem_low t _ (p + k) h4 (by omega), show decide (g.a ≤ p + k) = false by simp; omega]
      rfl
    · rw [List.getElem?_append_right (by simp; omega), List.length_replicate]
      by_cases hk2 : k - (g.a - p) < g.m
      · rw [List.getElem?_append_left (by simpa using hk2), List.getElem?_replicate, if_pos hk2, show decide (g.a ≤ p + k) = true by simp; omega, show decide (p + k < g.a + g.m) = true by simp; omega]
        rfl
      · rw [List.getElem?_append_right (by simp; omega), List.length_replicate, seg_at t _ _ (ok_mono h4 (by omega)) h3 (by omega)]
        rw [show decide (p + k < g.a + g.m) = false by simp; omega, show g.a + g.m + (k - (g.a - p) - g.m) = p + k by omega]
        simp
/-- a row is a list's row if it tells the same of every block -/
theorem seg_ext {size : Nat} {l : List N} {row : List Bool} (h : Ok size 0 l) (hl : row.length = size) (hm : ∀ k, k < size → row[k]? = some (mem l k)) : row = seg size 0 l := by
  refine List.ext_getElem? fun k => ?_
  by_cases hk : k < size
  · rw [hm k hk, seg_at l 0 k h (Nat.zero_le _) (by omega), Nat.zero_add]
  · rw [List.getElem?_eq_none (by omega), List.getElem?_eq_none (by rw [seg_len l 0 h (Nat.zero_le _)]; omega)]

/-- the last gap one longer -/
def bump : List N → List N
  | [] => []
  | [g] => [⟨g.a, g.m + 1⟩]
  | g :: t => g :: bump t
theorem bump_snoc (l : List N) (g : N) : bump (l ++ [g]) = l ++ [⟨g.a, g.m + 1⟩] := by
  induction l with
  | nil => rfl
  | cons x l ih =>
    cases l with
    | nil => rfl
    | cons y l => exact congrArg (x :: ·) ih
/-- one block read: k, whether the one ahead of it was free, whether it is -/
def ngStep (out : List N) (k : Nat) (prev f : Bool) : List N := if f then (if prev then bump out else out ++ [⟨k, 1⟩]) else out
def ng : List Bool → Nat → Bool → List N → List N
  | [], _, _, out => out
  | f :: t, k, prev, out => ng t (k + 1) f (ngStep out k prev f)
theorem ng_false : ∀ (d : Nat) (t : List Bool) (k : Nat) (prev : Bool) (out : List N), ng (List.replicate (d + 1) false ++ t) k prev out = ng t (k + d + 1) false out
  | 0, t, k, prev, out => rfl
  | d + 1, t, k, prev, out => by
    have h := ng_false d t (k + 1) false out
    rw [List.replicate_succ, List.cons_append]
    show ng (List.replicate (d + 1) false ++ t) (k + 1) false out = _
    rw [h]
    congr 1
    omega
theorem ng_true : ∀ (m : Nat) (t : List Bool) (k : Nat) (out : List N) (g : N), ng (List.replicate m true ++ t) k true (out ++ [g]) = ng t (k + m) true (out ++ [⟨g.a, g.m + m⟩])
  | 0, t, k, out, g => rfl
  | m + 1, t, k, out, g => by
    rw [List.replicate_succ, List.cons_append]
    show ng (List.replicate m true ++ t) (k + 1) true (bump (out ++ [g])) = _
    rw [bump_snoc, ng_true m t (k + 1) out]
    congr 1
    · omega
    · congr 3
      simp
      omega
theorem ng_seg {size : Nat} : ∀ (l : List N) (p : Nat) (prev : Bool) (out : List N), Ok size (if prev then p + 1 else p) l → p ≤ size → ng (seg size p l) p prev out = out ++ l
  | [], p, prev, out, _, hp => by
    rw [seg, List.append_nil]
    cases hd : size - p with
    | zero => rfl
    | succ d =>
      have := ng_false d [] p prev out
      rw [List.append_nil] at this
      rw [this]
      rfl
  | g :: t, p, prev, out, h, hp => by
    obtain ⟨h1, h2, h3, h4⟩ := h
    have key : ∀ out, ng (List.replicate g.m true ++ seg size (g.a + g.m) t) g.a false out = out ++ g :: t := by
      intro out
      obtain ⟨m, hm⟩ : ∃ m, g.m = m + 1 := ⟨g.m - 1, by omega⟩
      rw [hm, List.replicate_succ, List.cons_append]
      show ng (List.replicate m true ++ seg size (g.a + (m + 1)) t) (g.a + 1) true (out ++ [⟨g.a, 1⟩]) = _
      rw [ng_true, show g.a + 1 + m = g.a + (m + 1) by omega, ng_seg t _ true _ (by rw [if_pos rfl, ← hm]; exact h4) (by rw [← hm]; exact h3), List.append_assoc]
      show out ++ (⟨g.a, 1 + m⟩ :: t) = out ++ g :: t
      rw [show (⟨g.a, 1 + m⟩ : N) = g by cases g; simp at hm ⊢; omega]
    rw [seg]
    cases hd : g.a - p with
    | zero =>
      have hpg : g.a = p := by
        cases prev with
        | true => rw [if_pos rfl] at h1; omega
        | false => rw [if_neg (by decide)] at h1; omega
      have hpf : prev = false := by
        cases prev with
        | true => rw [if_pos rfl] at h1; omega
        | false => rfl
      subst hpf
      rw [← hpg]
      exact key out
    | succ d =>
      rw [ng_false, show p + d + 1 = g.a by omega]
      exact key out
/-- the gaps of a list's row are the list -/
theorem gaps_row {size : Nat} {l : List N} (h : Ok size 0 l) : ng (seg size 0 l) 0 false [] = l := by
  rw [ng_seg l 0 false [] (by rw [if_neg (by decide)]; exact h) (Nat.zero_le _)]
  rfl
end Sp
end Go.Proofs.Ytakmfjnfkjdbfaa
