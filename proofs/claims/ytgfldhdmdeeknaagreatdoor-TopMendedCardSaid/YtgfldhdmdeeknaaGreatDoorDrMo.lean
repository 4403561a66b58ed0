/-
  Base texts in one: DrM, DrO. Conditions: none beyond each theorem's own premises.
-/
import Derived.Test.YtgfldhdmdeeknaaGreatDoorBase
import Derived.Lib.Bytealg
/-! Plain laws of package dir: names as byte strings, their order, the runes of a name. Conditions: none beyond each theorem's own premises. -/
namespace Go.Proofs.YtgfldhdmdeeknaaGreatDoor
set_option linter.unusedVariables false
namespace Dr

/-! order of byte lists -/
theorem bl_irr : ∀ a : List UInt8, Op.bytesLess a a = false
  | [] => rfl
  | x :: a => by
    have h : ¬ x < x := UInt8.lt_irrefl x
    simp [Op.bytesLess, bl_irr a, h]
theorem bl_cons (x y : UInt8) (a b : List UInt8) : Op.bytesLess (x :: a) (y :: b) = true ↔ (x < y ∨ (x = y ∧ Op.bytesLess a b = true)) := by
  simp [Op.bytesLess]
theorem bl_trans : ∀ a b c : List UInt8, Op.bytesLess a b = true → Op.bytesLess b c = true → Op.bytesLess a c = true
  | _, [], _, h, _ => by
    rename_i a _
    cases a <;> simp [Op.bytesLess] at h
  | _, _ :: _, [], _, h => by simp [Op.bytesLess] at h
  | [], _ :: _, _ :: _, _, _ => by simp [Op.bytesLess]
  | x :: a, y :: b, z :: c, h, h' => by
    rw [bl_cons] at h h' ⊢
    rcases h with h | ⟨rfl, h⟩
    · rcases h' with h' | ⟨rfl, h'⟩
      · exact .inl (UInt8.lt_trans h h')
      · exact .inl h
    · rcases h' with h' | ⟨rfl, h'⟩
      · exact .inl h'
      · exact .inr ⟨rfl, bl_trans a b c h h'⟩
theorem bl_tot : ∀ a b : List UInt8, a ≠ b → Op.bytesLess a b = true ∨ Op.bytesLess b a = true
  | [], [], h => absurd rfl h
  | [], _ :: _, _ => .inl (by simp [Op.bytesLess])
  | _ :: _, [], _ => .inr (by simp [Op.bytesLess])
  | x :: a, y :: b, h => by
    rw [bl_cons, bl_cons]
    by_cases hxy : x = y
    · subst hxy
      rcases bl_tot a b (fun e => h (by rw [e])) with h' | h'
      · exact .inl (.inr ⟨rfl, h'⟩)
      · exact .inr (.inr ⟨rfl, h'⟩)
    · by_cases hlt : x < y
      · exact .inl (.inl hlt)
      · exact .inr (.inl (UInt8.lt_of_le_of_ne (UInt8.not_lt.1 hlt) (Ne.symm hxy)))
theorem cmp_lt : ∀ a b : List UInt8, Lib.compareBytes a b < 0 ↔ Op.bytesLess a b = true
  | [], [] => by simp [Lib.compareBytes, Op.bytesLess]
  | [], _ :: _ => by simp [Lib.compareBytes, Op.bytesLess]
  | _ :: _, [] => by simp [Lib.compareBytes, Op.bytesLess]
  | x :: a, y :: b => by
    rw [bl_cons]
    unfold Lib.compareBytes
    by_cases h1 : x < y
    · simp [h1]
    · rw [if_neg h1]
      by_cases h2 : y < x
      · have hne : x ≠ y := fun e => by subst e; exact h1 h2
        simp [h2, h1, hne]
      · rw [if_neg h2, cmp_lt a b]
        have hxy : x = y := Classical.byContradiction fun h => h2 (UInt8.lt_of_le_of_ne (UInt8.not_lt.1 h1) (Ne.symm h))
        simp [hxy]
theorem cmp_eq0 : ∀ a b : List UInt8, Lib.compareBytes a b = 0 ↔ a = b
  | [], [] => by simp [Lib.compareBytes]
  | [], _ :: _ => by simp [Lib.compareBytes]
  | _ :: _, [] => by simp [Lib.compareBytes]
  | x :: a, y :: b => by
    unfold Lib.compareBytes
    by_cases h1 : x < y
    · have hne : x ≠ y := fun e => by subst e; exact UInt8.lt_irrefl _ h1
      simp [h1, hne]
    · rw [if_neg h1]
      by_cases h2 : y < x
      · have hne : x ≠ y := fun e => by subst e; exact h1 h2
        simp [h2, hne]
      · rw [if_neg h2, cmp_eq0 a b]
        have hxy : x = y := Classical.byContradiction fun h => h2 (UInt8.lt_of_le_of_ne (UInt8.not_lt.1 h1) (Ne.symm h))
        simp [hxy]
/-! strings -/
theorem toList_inj {a b : ByteArray} (h : a.toList = b.toList) : a = b := by
  rw [ByteArray.toList_eq, ByteArray.toList_eq] at h
  exact ByteArray.ext (Array.ext' h)
/-- a name that may stand in a folder -/
def GoodB (s : ByteArray) : Prop := 1 ≤ s.size ∧ s.size ≤ 12 ∧ (∀ b ∈ s.data.toList, b ≠ 0 ∧ b ≠ 47) ∧ s.data.toList ≠ [46] ∧ s.data.toList ≠ [46, 46]
instance (s : ByteArray) : Decidable (GoodB s) := by unfold GoodB; infer_instance

/-! the runes of a string: none but the one-byte runes is below 128 -/
def bAt (s : ByteArray) (i : Nat) : Nat := (s.get! i).toNat
theorem decode_ascii {s : ByteArray} {i : Nat} (h : bAt s i < 128) : Utf8.decode s i = (bAt s i, 1) := by
  unfold bAt at h ⊢
  unfold Utf8.decode
  simp only [Nat.add_zero]
  rw [if_pos h]
theorem decode_wide {s : ByteArray} {i : Nat} (h : ¬ bAt s i < 128) : 128 ≤ (Utf8.decode s i).1 ∧ (Utf8.decode s i).1 < 1114112 ∧ 1 ≤ (Utf8.decode s i).2 ∧ ∀ k, 1 ≤ k → k < (Utf8.decode s i).2 → i + k < s.size ∧ 128 ≤ bAt s (i + k) := by
  unfold bAt at h ⊢
  unfold Utf8.decode
  simp only [Nat.add_zero]
  rw [if_neg h]
  have hb0 : (s.get! i).toNat < 256 := (s.get! i).toNat_lt
  have h1b : (s.get! (i + 1)).toNat < 256 := (s.get! (i + 1)).toNat_lt
  have h2b : (s.get! (i + 2)).toNat < 256 := (s.get! (i + 2)).toNat_lt
  have h3b : (s.get! (i + 3)).toNat < 256 := (s.get! (i + 3)).toNat_lt
  have err : 128 ≤ Utf8.runeError ∧ Utf8.runeError < 1114112 := by decide
  split
  · next hc =>
    simp only [Bool.and_eq_true, decide_eq_true_eq, beq_iff_eq] at hc
    split
    · refine ⟨by omega, by omega, by omega, fun k h1 h2 => ?_⟩
      obtain rfl : k = 1 := by simp at h2; omega
      exact ⟨hc.2.1, by omega⟩
    · exact ⟨err.1, err.2, by omega, fun k h1 h2 => by simp at h2; omega⟩
  · split
    · next hc =>
      simp only [Bool.and_eq_true, decide_eq_true_eq, beq_iff_eq] at hc
      split
      · next hv =>
        refine ⟨by simp at hv; omega, by omega, by omega, fun k h1 h2 => ?_⟩
        have : k = 1 ∨ k = 2 := by simp at h2; omega
        rcases this with rfl | rfl
        · exact ⟨hc.1.2.1, by omega⟩
        · exact ⟨hc.2.1, by omega⟩
      · exact ⟨err.1, err.2, by omega, fun k h1 h2 => by simp at h2; omega⟩
    · split
      · next hc =>
        simp only [Bool.and_eq_true, decide_eq_true_eq, beq_iff_eq] at hc
        split
        · next hv =>
          simp only [Bool.and_eq_true, decide_eq_true_eq, ge_iff_le, Utf8.valid, Bool.or_eq_true] at hv
          refine ⟨by omega, by omega, by omega, fun k h1 h2 => ?_⟩
          have : k = 1 ∨ k = 2 ∨ k = 3 := by simp at h2; omega
          rcases this with rfl | rfl | rfl
          · exact ⟨hc.1.1.2.1, by omega⟩
          · exact ⟨hc.1.2.1, by omega⟩
          · exact ⟨hc.2.1, by omega⟩
        · exact ⟨err.1, err.2, by omega, fun k h1 h2 => by simp at h2; omega⟩
      · exact ⟨err.1, err.2, by omega, fun k h1 h2 => by simp at h2; omega⟩
end Dr
end Go.Proofs.YtgfldhdmdeeknaaGreatDoor
/-! The order of names. Plain Lean. Conditions: none. -/
namespace Go.Proofs.YtgfldhdmdeeknaaGreatDoor
set_option linter.unusedVariables false
namespace Dr

/-- one name lies before another -/
def ltN (a b : ByteArray) : Bool := Op.bytesLess a.toList b.toList
theorem ltN_irr (a : ByteArray) : ltN a a = false := bl_irr _
theorem ltN_trans {a b c : ByteArray} (h : ltN a b = true) (h' : ltN b c = true) : ltN a c = true := bl_trans _ _ _ h h'
theorem ltN_tot {a b : ByteArray} (h : a ≠ b) : ltN a b = true ∨ ltN b a = true := bl_tot _ _ (fun e => h (toList_inj e))
theorem ltN_ne {a b : ByteArray} (h : ltN a b = true) : a ≠ b := fun e => by rw [e, ltN_irr] at h; cases h
theorem ltN_asym {a b : ByteArray} (h : ltN a b = true) : ltN b a = false := by
  cases h2 : ltN b a with
  | false => rfl
  | true => have := ltN_trans h h2; rw [ltN_irr] at this; cases this
theorem leq_iff (a b : ByteArray) : (Op.bytesLess a.toList b.toList || a.toList == b.toList) = false ↔ ltN b a = true := by
  rw [Bool.or_eq_false_iff, beq_eq_false_iff_ne]
  constructor
  · rintro ⟨h1, h2⟩
    rcases ltN_tot (fun e => h2 (by rw [e]) : a ≠ b) with h | h
    · unfold ltN at h; rw [h1] at h; cases h
    · exact h
  · intro h
    exact ⟨ltN_asym h, fun e => ltN_ne h (toList_inj e.symm)⟩
end Dr
end Go.Proofs.YtgfldhdmdeeknaaGreatDoor
