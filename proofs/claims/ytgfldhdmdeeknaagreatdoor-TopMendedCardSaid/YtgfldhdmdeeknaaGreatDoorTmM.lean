/-
  The plain law of TopMended: eight bytes as a word and back; a word with one bit turned, of it or of its check bits, is mended. Plain Lean, no program. Conditions: none.
-/
import Derived.Test.YtgfldhdmdeeknaaGreatDoorCrcP
import Derived.Test.YtgfldhdmdeeknaaGreatDoorEccP
namespace Go.Proofs.YtgfldhdmdeeknaaGreatDoor
set_option linter.unusedVariables false
namespace Tm
open _root_.Go.Proofs.YtgfldhdmdeeknaaGreatDoor.Ecc _root_.Go.Proofs.YtgfldhdmdeeknaaGreatDoor.Crc

theorem val_snoc (c : Nat) : ∀ l : List Nat, val (l ++ [c]) = val l + 2 ^ (8 * l.length) * c
  | [] => by simp [val]
  | b :: l => by
    have e : 2 ^ (8 * (l.length + 1)) = 256 * 2 ^ (8 * l.length) := by rw [Nat.mul_add, Nat.pow_add, Nat.mul_comm]
    rw [List.cons_append, val, val, val_snoc c l, List.length_cons, e, Nat.mul_add, Nat.mul_assoc]
    omega
theorem val_lt : ∀ l : List Nat, (∀ x ∈ l, x < 256) → val l < 2 ^ (8 * l.length)
  | [], _ => by simp [val]
  | b :: l, h => by
    have ih := val_lt l (fun x hx => h x (by simp [hx]))
    have hb := h b (by simp)
    have e : 2 ^ (8 * (l.length + 1)) = 256 * 2 ^ (8 * l.length) := by rw [Nat.mul_add, Nat.pow_add, Nat.mul_comm]
    rw [val, List.length_cons, e]
    omega
theorem val_or (c : Nat) (l : List Nat) (h : ∀ x ∈ l, x < 256) : val l ||| (c * 2 ^ (8 * l.length)) = val (l ++ [c]) := by
  have h1 := Nat.two_pow_add_eq_or_of_lt (val_lt l h) c
  rw [val_snoc, Nat.add_comm, h1, Nat.or_comm, Nat.mul_comm]
theorem val_at : ∀ (l : List Nat) (i x : Nat), (∀ x ∈ l, x < 256) → l[i]? = some x → val l / 2 ^ (8 * i) % 256 = x
  | [], i, x, _, hx => by simp at hx
  | b :: l, 0, x, h, hx => by
    obtain rfl : b = x := by simpa using hx
    have hb := h b (by simp)
    rw [val]
    simp only [Nat.mul_zero, Nat.pow_zero, Nat.div_one]
    omega
  | b :: l, i + 1, x, h, hx => by
    have hb := h b (by simp)
    have ih := val_at l i x (fun x hx => h x (by simp [hx])) (by simpa using hx)
    have e : 2 ^ (8 * (i + 1)) = 256 * 2 ^ (8 * i) := by rw [Nat.mul_add, Nat.pow_add, Nat.mul_comm]
    rw [e, ← Nat.div_div_eq_div_mul, val]
    have e2 : (b + 256 * val l) / 256 = val l := by omega
    rw [e2]
    exact ih

/-! mending -/
theorem firstN_none {p : Nat → Bool} : ∀ (f k : Nat), firstN p f k = none → ∀ i, k ≤ i → i < k + f → p i = false
  | 0, k, _, i, h1, h2 => by omega
  | f + 1, k, h, i, h1, h2 => by
    rw [firstN] at h
    split at h
    · cases h
    · rename_i hp
      by_cases e : i = k
      · subst e
        simpa using hp
      · exact firstN_none f (k + 1) h i (by omega) (by omega)
theorem quo_inj (j k : Nat) (hj : j < 64) (hk : k < 64) (h : quo j = quo k) : j = k := by
  have h0 : ∀ j : Fin 64, ∀ k : Fin 64, quo j.val = quo k.val → j = k := by decide +kernel
  exact congrArg Fin.val (h0 ⟨j, hj⟩ ⟨k, hk⟩ h)
theorem quo_pos (j : Nat) (hj : j < 64) : quo j ≠ 0 := by
  have h0 : ∀ j : Fin 64, quo j.val ≠ 0 := by decide +kernel
  exact h0 ⟨j, hj⟩
theorem xor_right {a b c : Nat} (h : a ^^^ b = a ^^^ c) : b = c := by
  have h1 : a ^^^ (a ^^^ b) = a ^^^ (a ^^^ c) := by rw [h]
  rwa [← Nat.xor_assoc, ← Nat.xor_assoc, Nat.xor_self, Nat.zero_xor, Nat.zero_xor] at h1
theorem xor_zero_of {a b : Nat} (h : a ^^^ b = a) : b = 0 := by
  have h1 : a ^^^ (a ^^^ b) = a ^^^ a := by rw [h]
  rwa [← Nat.xor_assoc, Nat.xor_self, Nat.zero_xor] at h1
theorem xor_back (a b : Nat) : a ^^^ b ^^^ b = a := by rw [Nat.xor_assoc, Nat.xor_self, Nat.xor_zero]
def Mends (w : Nat) (r : Nat × Nat × Nat × Nat) : Prop := r.1 = w ∧ r.2.2.2 = 0
theorem mend_none (w : Nat) : Mends w (mendA w (checkN w)) := by
  unfold mendA
  rw [if_pos rfl]
  exact ⟨rfl, rfl⟩
theorem mend_bit (w t : Nat) (ht : t < 64) : Mends w (mendA (w ^^^ 2 ^ t) (checkN w)) := by
  rw [mend_eq]
  unfold mendB
  rw [if_neg (fun h => quo_pos t ht (by rw [checkN_flip w t ht] at h; exact xor_zero_of h))]
  cases h2 : firstN (fun i => checkN (w ^^^ 2 ^ t ^^^ 2 ^ i) == checkN w) 64 0 with
  | none =>
    have h3 := firstN_none _ _ h2 t (by omega) (by omega)
    simp only [xor_back] at h3
    simp at h3
  | some k =>
    have h3 := firstN_some _ _ _ h2
    have hk : k < 64 := by omega
    have h4 : checkN (w ^^^ 2 ^ t ^^^ 2 ^ k) = checkN w := by simpa using h3.1
    rw [checkN_flip _ k hk, checkN_flip _ t ht, Nat.xor_assoc] at h4
    have h5 := xor_zero_of h4
    have h6 : quo t = quo k := by
      have : quo t ^^^ quo k = quo t ^^^ quo t := by rw [h5, Nat.xor_self]
      exact (xor_right this).symm
    obtain rfl := quo_inj t k ht hk h6
    exact ⟨xor_back w _, rfl⟩
theorem mend_chk (w j : Nat) (hj : j < 8) : Mends w (mendA w (checkN w ^^^ 2 ^ j)) := by
  unfold mendA
  split
  · exact ⟨rfl, rfl⟩
  · cases h2 : firstN (fun i => checkN w == checkN w ^^^ 2 ^ j ^^^ 2 ^ i) 8 0 with
    | none =>
      have h3 := firstN_none _ _ h2 j (by omega) (by omega)
      simp only [xor_back] at h3
      simp at h3
    | some k => exact ⟨rfl, rfl⟩

/-! opening what was sealed -/
theorem open_seal (l : List Nat) (hl : l.length ≤ 4096) (hb : ∀ x ∈ l, x < 256) : openE (l ++ tail2 (sumB 65535 l)) = (l, 0) := by
  have hs := sumB_lt l 65535 (by omega)
  have e : (l ++ tail2 (sumB 65535 l)).length = l.length + 2 := by simp [tail2]
  rw [openE_seal e (by omega) (by omega) (fun x hx => by
    rcases List.mem_append.1 hx with h | h
    · exact hb x h
    · simp only [tail2, List.mem_cons, List.not_mem_nil, or_false] at h
      rcases h with rfl | rfl <;> omega)]
  have e2 : (l ++ tail2 (sumB 65535 l)).take (l.length + 2 - 2) = l := by simp
  rw [e2, if_pos rfl]
end Tm
end Go.Proofs.YtgfldhdmdeeknaaGreatDoor
