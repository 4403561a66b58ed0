/-
  Bits of bytes: the plain mathematics of package cell.
-/
import Derived.Test.YtakmfjnfkjdbfabRows
namespace Go.Proofs.Ytakmfjnfkjdbfab
namespace Cell

theorem lt_pow {x j : Nat} (h : x < 256) (hj : ¬ j < 8) : x < 2 ^ j :=
  Nat.lt_of_lt_of_le (show x < 2 ^ 8 from h) (Nat.pow_le_pow_right (by omega) (by omega))
/-- the number of the first i bits of f -/
def byteN (f : Nat → Bool) : Nat → Nat
  | 0 => 0
  | i + 1 => byteN f i + if f i then 2 ^ i else 0
theorem byteN_lt (f : Nat → Bool) : ∀ i, byteN f i < 2 ^ i
  | 0 => by simp [byteN]
  | i + 1 => by
    have := byteN_lt f i
    rw [byteN, Nat.pow_succ]
    split <;> omega
theorem byteN_bit (f : Nat → Bool) : ∀ i j, (byteN f i).testBit j = (decide (j < i) && f j)
  | 0, j => by simp [byteN]
  | i + 1, j => by
    have hlt := byteN_lt f i
    have ih := byteN_bit f i
    rw [byteN]
    by_cases hf : f i = true
    · rw [if_pos hf, Nat.add_comm]
      by_cases h1 : j < i
      · rw [Nat.testBit_two_pow_add_gt h1, ih]
        simp [h1, Nat.lt_succ_of_lt h1]
      · by_cases h2 : j = i
        · subst h2
          rw [Nat.testBit_two_pow_add_eq, ih]
          simp [hf]
        · have h3 : 2 ^ i + byteN f i < 2 ^ j := by
            have : 2 ^ (i + 1) ≤ 2 ^ j := Nat.pow_le_pow_right (by omega) (by omega)
            rw [Nat.pow_succ] at this
            omega
          rw [Nat.testBit_lt_two_pow h3]
          have : ¬ j < i + 1 := by omega
          simp [this]
    · simp only [Bool.not_eq_true] at hf
      rw [hf]
      simp only [Bool.false_eq_true, if_false, Nat.add_zero]
      rw [ih]
      by_cases h2 : j = i
      · subst h2; simp [hf]
      · have : (j < i) ↔ (j < i + 1) := by omega
        simp [this]
theorem byteN_congr {f g : Nat → Bool} : ∀ i, (∀ j, j < i → f j = g j) → byteN f i = byteN g i
  | 0, _ => rfl
  | i + 1, h => by rw [byteN, byteN, byteN_congr i (fun j hj => h j (by omega)), h i (by omega)]

/-- what the interrupted write makes of a byte, i bits done -/
def tornTo (o n : Nat) (sel : Nat → Bool) (i t : Nat) : Prop := t < 256 ∧ ∀ j, j < 8 → t.testBit j = (if j < i ∧ sel j = true then n.testBit j else o.testBit j)
theorem mask_bit : ∀ i, i < 8 → ∀ j, j < 8 → (255 - 2 ^ i).testBit j = decide (j ≠ i) := by decide
theorem pow_bit : ∀ i, i < 8 → ∀ j, j < 8 → (2 ^ i).testBit j = decide (j = i) := by decide
theorem torn_step {o n t i : Nat} {sel : Nat → Bool} (h : tornTo o n sel i t) (hi : i < 8) (hs : sel i = true) (hn : n < 256) : tornTo o n sel (i + 1) ((t &&& (255 - 2 ^ i)) ||| (n &&& 2 ^ i)) := by
  refine ⟨Nat.or_lt_two_pow (n := 8) (Nat.lt_of_le_of_lt Nat.and_le_left h.1) (Nat.lt_of_le_of_lt Nat.and_le_left hn), fun j hj => ?_⟩
  rw [Nat.testBit_or, Nat.testBit_and, Nat.testBit_and, mask_bit i hi j hj, pow_bit i hi j hj, h.2 j hj]
  by_cases hji : j = i
  · subst hji
    simp [hs]
  · have e : (j < i + 1) ↔ (j < i) := by omega
    simp [hji, e]
theorem torn_skip {o n t i : Nat} {sel : Nat → Bool} (h : tornTo o n sel i t) (hs : sel i = false) : tornTo o n sel (i + 1) t := by
  refine ⟨h.1, fun j hj => ?_⟩
  rw [h.2 j hj]
  by_cases hji : j = i
  · subst hji; simp [hs]
  · have e : (j < i + 1) ↔ (j < i) := by omega
    simp [e]
theorem torn_end {o n t : Nat} {sel : Nat → Bool} (h : tornTo o n sel 8 t) : t = byteN (fun j => if sel j then n.testBit j else o.testBit j) 8 := by
  apply Nat.eq_of_testBit_eq
  intro j
  rw [byteN_bit]
  by_cases hj : j < 8
  · rw [h.2 j hj]
    simp [hj]
  · rw [Nat.testBit_lt_two_pow (lt_pow h.1 hj)]
    simp [hj]

/-- bit i of a byte, as the reference takes it -/
theorem half_bit (c i : Nat) : (c / 2 ^ i % 2 == 1) = c.testBit i := by
  rw [Nat.testBit_eq_decide_div_mod_eq, Bool.eq_iff_iff]
  simp

/-- next may be written over old -/
def mayB (o n : Nat) : Bool := decide (n &&& (255 - o) = 0)
theorem sub_bit {o j : Nat} (ho : o < 256) (hj : j < 8) : (255 - o).testBit j = !o.testBit j := by
  have := Nat.testBit_two_pow_sub_succ (x := o) (n := 8) ho j
  rw [show 2 ^ 8 - (o + 1) = 255 - o by omega] at this
  rw [this]
  simp [hj]
theorem mayB_iff {o n : Nat} (ho : o < 256) (hn : n < 256) : mayB o n = true ↔ ∀ j, j < 8 → n.testBit j = true → o.testBit j = true := by
  unfold mayB
  rw [decide_eq_true_eq]
  constructor
  · intro h j hj hb
    have := congrArg (fun x => x.testBit j) h
    simp only [Nat.testBit_and, Nat.zero_testBit, sub_bit ho hj, hb, Bool.true_and, Bool.not_eq_false'] at this
    exact this
  · intro h
    apply Nat.eq_of_testBit_eq
    intro j
    rw [Nat.testBit_and, Nat.zero_testBit]
    by_cases hj : j < 8
    · rw [sub_bit ho hj]
      cases hb : n.testBit j with
      | false => rfl
      | true => simp [h j hj hb]
    · rw [Nat.testBit_lt_two_pow (lt_pow hn hj)]
      rfl

/-- the bits of bytes, the lowest of each first -/
def bit (l : List Nat) (k : Nat) : Bool := (l.getD (k / 8) 0).testBit (k % 8)
def bitsL (l : List Nat) : List Bool := (List.range (8 * l.length)).map (bit l)
theorem bitsL_len (l : List Nat) : (bitsL l).length = 8 * l.length := by simp [bitsL]
theorem bitsL_at {l : List Nat} {k : Nat} (h : k < 8 * l.length) : (bitsL l)[k]? = some (bit l k) := by simp [bitsL, h]
def bytesOf (b : Nat → Bool) (m : Nat) : List Nat := (List.range m).map fun j => byteN (fun i => b (8 * j + i)) 8
def tornBit (o n : List Nat) (row : List Bool) (k : Nat) : Bool := if row.getD k false then bit n k else bit o k
def tornL (o n : List Nat) (row : List Bool) : List Nat := bytesOf (tornBit o n row) o.length
def mayL (o n : List Nat) : Bool := decide (o.length = n.length) && (List.range o.length).all fun k => mayB (o.getD k 0) (n.getD k 0)
theorem mayL_bits {o n : List Nat} (ho : ∀ x ∈ o, x < 256) (hn : ∀ x ∈ n, x < 256) (hl : o.length = n.length) : mayL o n = (List.range (8 * o.length)).all fun k => bit o k || !bit n k := by
  have g : ∀ (l : List Nat) k, (∀ x ∈ l, x < 256) → l.getD k 0 < 256 := by
    intro l k h
    rw [List.getD_eq_getElem?_getD]
    cases hk : l[k]? with
    | none => simp
    | some x => simpa using h x (List.mem_of_getElem? hk)
  unfold mayL
  rw [Bool.eq_iff_iff]
  simp only [hl, decide_true, Bool.true_and, List.all_eq_true, List.mem_range]
  constructor
  · intro h k hk
    have := (mayB_iff (g o _ ho) (g n _ hn)).1 (h (k / 8) (by omega)) (k % 8) (by omega)
    unfold bit
    cases hb : (n.getD (k / 8) 0).testBit (k % 8) with
    | false => simp
    | true => rw [this hb]; rfl
  · intro h k hk
    refine (mayB_iff (g o _ ho) (g n _ hn)).2 (fun j hj hb => ?_)
    have := h (8 * k + j) (by omega)
    unfold bit at this
    rw [show (8 * k + j) / 8 = k by omega, show (8 * k + j) % 8 = j by omega, hb] at this
    simpa using this
end Cell
end Go.Proofs.Ytakmfjnfkjdbfab
