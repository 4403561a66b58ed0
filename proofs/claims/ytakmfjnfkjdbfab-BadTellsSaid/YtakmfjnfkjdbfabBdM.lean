/-
  The plain law of bad blocks: which are right, which are good, and where each stands. Conditions: none beyond each theorem's own premises.
-/
import Derived.Test.YtakmfjnfkjdbfabRows
namespace Go.Proofs.Ytakmfjnfkjdbfab
namespace Bd
set_option linter.unusedVariables false

def okL (B last : Int) : List Int → Bool
  | [] => true
  | b :: t => decide (last < b) && decide (b < B) && okL B b t
def rightB (B : Int) (l : List Int) : Bool := decide (0 ≤ B) && decide (B ≤ 4096) && okL B (-1) l
theorem okL_spec {B : Int} : ∀ (l : List Int) (last : Int), okL B last l = true → l.Pairwise (· < ·) ∧ ∀ x ∈ l, last < x ∧ x < B
  | [], last, h => ⟨List.Pairwise.nil, by simp⟩
  | b :: t, last, h => by
    simp only [okL, Bool.and_eq_true, decide_eq_true_eq] at h
    obtain ⟨h1, h2⟩ := okL_spec t b h.2
    refine ⟨List.pairwise_cons.2 ⟨fun x hx => (h2 x hx).1, h1⟩, fun x hx => ?_⟩
    rcases List.mem_cons.1 hx with rfl | hx
    · exact h.1
    · exact ⟨by have := (h2 x hx).1; omega, (h2 x hx).2⟩

/-- the number of bad blocks below r -/
def cnt (l : List Int) (r : Int) : Nat := l.countP (fun x => decide (x < r))
theorem cnt_nil (r : Int) : cnt [] r = 0 := rfl
theorem cnt_cons (b : Int) (t : List Int) (r : Int) : cnt (b :: t) r = cnt t r + if b < r then 1 else 0 := by
  unfold cnt
  rw [List.countP_cons]
  by_cases h : b < r <;> simp [h]
theorem cnt_le (l : List Int) (r : Int) : cnt l r ≤ l.length := List.countP_le_length
theorem cnt_none : ∀ (l : List Int) (r : Int), (∀ x ∈ l, r ≤ x) → cnt l r = 0
  | [], r, h => rfl
  | b :: t, r, h => by
    rw [cnt_cons, cnt_none t r (fun x hx => h x (by simp [hx])), if_neg (by have := h b (by simp); omega)]
theorem cnt_all : ∀ (l : List Int) (r : Int), (∀ x ∈ l, x < r) → cnt l r = l.length
  | [], r, h => rfl
  | b :: t, r, h => by
    rw [cnt_cons, cnt_all t r (fun x hx => h x (by simp [hx])), if_pos (h b (by simp))]
    rfl
theorem cnt_succ : ∀ (l : List Int) (r : Int), l.Pairwise (· < ·) → cnt l (r + 1) = cnt l r + if r ∈ l then 1 else 0
  | [], r, h => by simp [cnt]
  | b :: t, r, h => by
    obtain ⟨h1, h2⟩ := List.pairwise_cons.1 h
    rw [cnt_cons, cnt_cons, cnt_succ t r h2]
    by_cases hb : r = b
    · subst hb
      have hn : r ∉ t := fun hm => by have := h1 r hm; omega
      rw [if_neg hn, if_pos (by omega), if_neg (by omega), if_pos (by simp)]
    · have hm : (r ∈ b :: t) ↔ r ∈ t := by simp [hb]
      have e3 : (if r ∈ b :: t then (1 : Nat) else 0) = if r ∈ t then 1 else 0 := by simp only [hm]
      rw [e3]
      by_cases hlt : b < r
      · have e1 : (if b < r + 1 then (1 : Nat) else 0) = 1 := if_pos (by omega)
        have e2 : (if b < r then (1 : Nat) else 0) = 1 := if_pos hlt
        rw [e1, e2]
        omega
      · have e1 : (if b < r + 1 then (1 : Nat) else 0) = 0 := if_neg (by omega)
        have e2 : (if b < r then (1 : Nat) else 0) = 0 := if_neg hlt
        rw [e1, e2]
        omega

/-- where the n-th good block is -/
def adv : Int → List Int → Int
  | n, [] => n
  | n, b :: t => if b ≤ n then adv (n + 1) t else adv n t
theorem adv_none : ∀ (l : List Int) (n : Int), (∀ x ∈ l, n < x) → adv n l = n
  | [], n, h => rfl
  | b :: t, n, h => by
    rw [adv, if_neg (by have := h b (by simp); omega)]
    exact adv_none t n fun x hx => h x (by simp [hx])
theorem adv_ge : ∀ (l : List Int) (n : Int), n ≤ adv n l
  | [], n => Int.le_refl _
  | b :: t, n => by
    rw [adv]
    split
    · have := adv_ge t (n + 1); omega
    · exact adv_ge t n
theorem adv_spec : ∀ (l : List Int) (n : Int), l.Pairwise (· < ·) → adv n l ∉ l ∧ adv n l = n + cnt l (adv n l)
  | [], n, h => by simp [adv, cnt]
  | b :: t, n, h => by
    obtain ⟨h1, h2⟩ := List.pairwise_cons.1 h
    by_cases hb : b ≤ n
    · have e : adv n (b :: t) = adv (n + 1) t := by rw [adv, if_pos hb]
      obtain ⟨h3, h4⟩ := adv_spec t (n + 1) h2
      have h5 := adv_ge t (n + 1)
      rw [e]
      generalize adv (n + 1) t = r at *
      refine ⟨fun hm => ?_, ?_⟩
      · rcases List.mem_cons.1 hm with h6 | h6
        · omega
        · exact h3 h6
      · rw [cnt_cons, if_pos (by omega)]
        omega
    · have e : adv n (b :: t) = n := adv_none _ _ fun x hx => by
        rcases List.mem_cons.1 hx with rfl | hx
        · omega
        · have := h1 x hx; omega
      rw [e]
      refine ⟨fun hm => ?_, ?_⟩
      · rcases List.mem_cons.1 hm with h6 | h6
        · omega
        · have := h1 n h6; omega
      · rw [cnt_none _ _ fun x hx => by
          rcases List.mem_cons.1 hx with rfl | hx
          · omega
          · have := h1 x hx; omega]
        omega

/-- the good blocks below k -/
def good (l : List Int) : Nat → List Int
  | 0 => []
  | k + 1 => if l.contains (k : Int) then good l k else good l k ++ [(k : Int)]
theorem good_len {l : List Int} (h : l.Pairwise (· < ·)) (h0 : ∀ x ∈ l, 0 ≤ x) : ∀ k : Nat, ((good l k).length : Int) = (k : Int) - cnt l k
  | 0 => by
    have : cnt l ((0 : Nat) : Int) = 0 := cnt_none l _ fun x hx => by have := h0 x hx; omega
    rw [this]
    simp [good]
  | k + 1 => by
    have ih := good_len h h0 k
    have hs := cnt_succ l (k : Int) h
    have e : (((k + 1 : Nat) : Int)) = (k : Int) + 1 := by omega
    rw [e, hs, good]
    by_cases hm : (k : Int) ∈ l
    · have hc : l.contains (k : Int) = true := by simpa using hm
      rw [if_pos hc, if_pos hm, ih]
      omega
    · have hc : l.contains (k : Int) = false := by simpa using hm
      rw [if_neg (by rw [hc]; decide), if_neg hm, List.length_append]
      simp
      omega
theorem good_grow (l : List Int) (k : Nat) : ∀ (d i : Nat) (x : Int), (good l k)[i]? = some x → (good l (k + d))[i]? = some x
  | 0, i, x, h => h
  | d + 1, i, x, h => by
    have ih := good_grow l k d i x h
    rw [← Nat.add_assoc, good]
    split
    · exact ih
    · rw [List.getElem?_append_left (List.getElem?_eq_some_iff.1 ih).1, ih]
theorem good_at {l : List Int} {r k : Nat} (hr : (r : Int) ∉ l) (hk : r < k) : (good l k)[(good l r).length]? = some (r : Int) := by
  obtain ⟨d, rfl⟩ : ∃ d, k = (r + 1) + d := ⟨k - (r + 1), by omega⟩
  refine good_grow l (r + 1) d _ _ ?_
  have hc : l.contains (r : Int) = false := by simpa using hr
  rw [good, if_neg (by rw [hc]; decide), List.getElem?_append_right (Nat.le_refl _), Nat.sub_self]
  rfl
theorem good_lt {l : List Int} : ∀ (k : Nat) (x : Int), x ∈ good l k → 0 ≤ x ∧ x < (k : Int)
  | 0, x, h => by simp [good] at h
  | k + 1, x, h => by
    rw [good] at h
    split at h
    · have := good_lt k x h; omega
    · rcases List.mem_append.1 h with h | h
      · have := good_lt k x h; omega
      · simp at h; omega
/-- no good block stands ahead of its place -/
theorem good_first {l : List Int} {r k : Nat} (j : Nat) (hj : j < (good l r).length) (hk : r ≤ k) : (good l k)[j]? ≠ some (r : Int) := by
  obtain ⟨d, rfl⟩ : ∃ d, k = r + d := ⟨k - r, by omega⟩
  intro h
  have h1 := good_grow l r d j _ (List.getElem?_eq_getElem hj)
  rw [h] at h1
  have h2 := good_lt r _ (List.getElem_mem hj)
  injection h1 with h1
  omega

/-- a block put where it belongs -/
theorem put_asc {l : List Int} {n : Int} (h : l.Pairwise (· < ·)) (hn : n ∉ l) : (l.take (cnt l n) ++ n :: l.drop (cnt l n)).Pairwise (· < ·) ∧ (∀ x ∈ l.take (cnt l n), x < n) ∧ ∀ x ∈ l.drop (cnt l n), n < x := by
  have key : ∀ (l : List Int), l.Pairwise (· < ·) → n ∉ l → (∀ x ∈ l.take (cnt l n), x < n) ∧ ∀ x ∈ l.drop (cnt l n), n < x := by
    intro l
    induction l with
    | nil => intro _ _; simp
    | cons b t ih =>
      intro h hn
      obtain ⟨h1, h2⟩ := List.pairwise_cons.1 h
      have hn' : n ∉ t := fun hm => hn (by simp [hm])
      obtain ⟨h3, h4⟩ := ih h2 hn'
      by_cases hb : b < n
      · rw [cnt_cons, if_pos hb]
        refine ⟨fun x hx => ?_, fun x hx => h4 x (by simpa using hx)⟩
        rw [List.take_succ_cons] at hx
        rcases List.mem_cons.1 hx with rfl | hx
        · exact hb
        · exact h3 x hx
      · have hbn : n ≠ b := fun e => hn (by simp [e])
        have h0 : cnt (b :: t) n = 0 := cnt_none _ _ fun x hx => by
          rcases List.mem_cons.1 hx with rfl | hx
          · omega
          · have := h1 x hx; omega
        rw [h0]
        refine ⟨by simp, fun x hx => ?_⟩
        rw [List.drop_zero] at hx
        rcases List.mem_cons.1 hx with rfl | hx
        · omega
        · have := h1 x hx; omega
  obtain ⟨h1, h2⟩ := key l h hn
  refine ⟨?_, h1, h2⟩
  rw [List.pairwise_append]
  refine ⟨h.sublist (List.take_sublist _ _), List.pairwise_cons.2 ⟨h2, h.sublist (List.drop_sublist _ _)⟩, fun x hx y hy => ?_⟩
  rcases List.mem_cons.1 hy with rfl | hy
  · exact h1 x hx
  · have := h1 x hx; have := h2 y hy; omega
theorem put_perm (l : List Int) (n : Int) (k : Nat) : (l.take k ++ n :: l.drop k).Perm (l ++ [n]) := by
  have h1 : (l.take k ++ n :: l.drop k).Perm (n :: (l.take k ++ l.drop k)) := List.perm_middle
  rw [List.take_append_drop] at h1
  exact h1.trans (List.perm_append_singleton n l).symm
theorem sort_put {l : List Int} {n : Int} (h : l.Pairwise (· < ·)) (hn : n ∉ l) : (l ++ [n]).mergeSort (fun x y => decide (x ≤ y)) = l.take (cnt l n) ++ n :: l.drop (cnt l n) := by
  have h1 := (put_asc h hn).1
  have h2 : (l.take (cnt l n) ++ n :: l.drop (cnt l n)).Pairwise (fun x y => (decide (x ≤ y)) = true) := h1.imp (fun hxy => by simp; omega)
  have h3 := List.pairwise_mergeSort (le := fun x y : Int => decide (x ≤ y)) (fun a b c hab hbc => by simp at *; omega) (fun a b => by simp; omega) (l ++ [n])
  have h4 : ((l ++ [n]).mergeSort (fun x y => decide (x ≤ y))).Perm (l.take (cnt l n) ++ n :: l.drop (cnt l n)) := (List.mergeSort_perm _ _).trans (put_perm l n _).symm
  exact h4.eq_of_pairwise (fun a b _ _ hab hba => by simp at hab hba; omega) h3 h2
end Bd
end Go.Proofs.Ytakmfjnfkjdbfab
