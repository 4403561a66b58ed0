/-
  Walks of ecc.Check and ecc.Mend, and the plain law of check bits. Conditions: none beyond each theorem's own premises.
-/
import Derived.Test.YtgfldhdmdeeknaaGreatDoorBase
import Derived.Test.YtgfldhdmdeeknaaGreatDoorBits
import Derived.Lib.BitFns
namespace Go.Proofs.YtgfldhdmdeeknaaGreatDoor
set_option maxRecDepth 100000
namespace Ecc

def posL : List Nat := [3, 5, 6, 7, 9, 10, 11, 12, 13, 14, 15, 17, 18, 19, 20, 21, 22, 23, 24, 25, 26, 27, 28, 29, 30, 31, 33, 34, 35, 36, 37, 38, 39, 40, 41, 42, 43, 44, 45, 46, 47, 48, 49, 50, 51, 52, 53, 54, 55, 56, 57, 58, 59, 60, 61, 62, 63, 65, 66, 67, 68, 69, 70, 71]
def pos (i : Nat) : Nat := posL.getD i 0
theorem pos_lt : ∀ i, pos i < 128 := by
  intro i
  by_cases h : i < 64
  · have : ∀ i : Fin 64, pos i.val < 128 := by decide +kernel
    exact this ⟨i, h⟩
  · have : pos i = 0 := by
      unfold pos
      rw [List.getD_eq_getElem?_getD, List.getElem?_eq_none (by simp [posL]; omega)]
      rfl
    omega

/-- the xor of the places of the set bits below n -/
def xorN : Nat → Nat → Nat
  | 0, _ => 0
  | n + 1, d => if d / 2 ^ n % 2 = 1 then xorN n d ^^^ pos n else xorN n d
def onesN : Nat → Nat → Nat
  | 0, _ => 0
  | n + 1, d => onesN n d + d / 2 ^ n % 2
def pop8 (x : Nat) : Nat := x % 2 + x / 2 % 2 + x / 4 % 2 + x / 8 % 2 + x / 16 % 2 + x / 32 % 2 + x / 64 % 2 + x / 128 % 2
def checkN (d : Nat) : Nat := xorN 64 d + 128 * ((onesN 64 d + pop8 (xorN 64 d)) % 2)

theorem xor_lt128 {a b : Nat} (ha : a < 128) (hb : b < 128) : a ^^^ b < 128 := Nat.xor_lt_two_pow (n := 7) ha hb
theorem xorN_lt (d : Nat) : ∀ n, xorN n d < 128
  | 0 => by simp [xorN]
  | n + 1 => by
    rw [xorN]
    split
    · exact xor_lt128 (xorN_lt d n) (pos_lt n)
    · exact xorN_lt d n
theorem checkN_lt (d : Nat) : checkN d < 256 := by
  have := xorN_lt d 64
  unfold checkN
  omega

/-- what one bit turns -/
def quo (i : Nat) : Nat := pos i + 128 * ((1 + pop8 (pos i)) % 2)
def quoN : Nat → Nat → Nat
  | 0, _ => 0
  | n + 1, d => if d / 2 ^ n % 2 = 1 then quoN n d ^^^ quo n else quoN n d

theorem xor_hi (a b s t : Nat) (ha : a < 128) (hb : b < 128) (hs : s < 2) (ht : t < 2) : (a + 128 * s) ^^^ (b + 128 * t) = (a ^^^ b) + 128 * ((s + t) % 2) := by
  have h1 : a + 128 * s = 2 ^ 7 * s + a := by omega
  have h2 : b + 128 * t = 2 ^ 7 * t + b := by omega
  have h3 : (a ^^^ b) + 128 * ((s + t) % 2) = 2 ^ 7 * ((s + t) % 2) + (a ^^^ b) := by omega
  rw [h1, h2, h3]
  apply Nat.eq_of_testBit_eq
  intro i
  rw [Nat.testBit_xor, Nat.testBit_two_pow_mul_add s ha, Nat.testBit_two_pow_mul_add t hb, Nat.testBit_two_pow_mul_add _ (xor_lt128 ha hb)]
  by_cases hi : i < 7
  · simp [hi, Nat.testBit_xor]
  · simp only [hi, if_false]
    have hs' : s = 0 ∨ s = 1 := by omega
    have ht' : t = 0 ∨ t = 1 := by omega
    rcases hs' with rfl | rfl <;> rcases ht' with rfl | rfl <;> simp

theorem pop_xor (a b : Nat) : pop8 (a ^^^ b) % 2 = (pop8 a + pop8 b) % 2 := by
  have key : ∀ x y : Nat, ∀ k : Nat, (x ^^^ y) / 2 ^ k % 2 = (x / 2 ^ k % 2 + y / 2 ^ k % 2) % 2 := by
    intro x y k
    have h1 := Nat.testBit_xor x y k
    simp only [Nat.testBit_eq_decide_div_mod_eq] at h1
    have hx : x / 2 ^ k % 2 = 0 ∨ x / 2 ^ k % 2 = 1 := by omega
    have hy : y / 2 ^ k % 2 = 0 ∨ y / 2 ^ k % 2 = 1 := by omega
    have hz : (x ^^^ y) / 2 ^ k % 2 = 0 ∨ (x ^^^ y) / 2 ^ k % 2 = 1 := by omega
    rcases hx with hx | hx <;> rcases hy with hy | hy <;> rcases hz with hz | hz <;> simp [hx, hy, hz] at h1 ⊢
  have k0 := key a b 0
  have k1 := key a b 1
  have k2 := key a b 2
  have k3 := key a b 3
  have k4 := key a b 4
  have k5 := key a b 5
  have k6 := key a b 6
  have k7 := key a b 7
  simp only [Nat.reducePow, Nat.div_one] at k0 k1 k2 k3 k4 k5 k6 k7
  unfold pop8
  rw [k0, k1, k2, k3, k4, k5, k6, k7]
  clear k0 k1 k2 k3 k4 k5 k6 k7 key
  generalize a % 2 = a0, a / 2 % 2 = a1, a / 4 % 2 = a2, a / 8 % 2 = a3, a / 16 % 2 = a4, a / 32 % 2 = a5, a / 64 % 2 = a6, a / 128 % 2 = a7
  generalize b % 2 = b0, b / 2 % 2 = b1, b / 4 % 2 = b2, b / 8 % 2 = b3, b / 16 % 2 = b4, b / 32 % 2 = b5, b / 64 % 2 = b6, b / 128 % 2 = b7
  have h2 : ∀ x y z : Nat, ((x + y) % 2 + z) % 2 = (x + y + z) % 2 := fun x y z => by omega
  simp only [Nat.add_mod, Nat.mod_mod]
  simp only [Nat.mod_mod, ← Nat.add_mod]
  congr 1
  omega

theorem quoN_eq (d : Nat) : ∀ n, quoN n d = xorN n d + 128 * ((onesN n d + pop8 (xorN n d)) % 2)
  | 0 => by simp [quoN, xorN, onesN, pop8]
  | n + 1 => by
    rw [quoN, xorN, onesN, quoN_eq d n]
    by_cases h : d / 2 ^ n % 2 = 1
    · rw [if_pos h, if_pos h, quo, xor_hi _ _ _ _ (xorN_lt d n) (pos_lt n) (by omega) (by omega)]
      have := pop_xor (xorN n d) (pos n)
      rw [h]
      omega
    · rw [if_neg h, if_neg h, show d / 2 ^ n % 2 = 0 by omega]
      rfl
theorem checkN_quo (d : Nat) : checkN d = quoN 64 d := (quoN_eq d 64).symm

theorem bit_flip (d k n : Nat) : (d ^^^ 2 ^ k) / 2 ^ n % 2 = if k = n then 1 - d / 2 ^ n % 2 else d / 2 ^ n % 2 := by
  have h1 := Nat.testBit_xor d (2 ^ k) n
  rw [Nat.testBit_two_pow] at h1
  simp only [Nat.testBit_eq_decide_div_mod_eq] at h1
  have hd : d / 2 ^ n % 2 = 0 ∨ d / 2 ^ n % 2 = 1 := by omega
  have hz : (d ^^^ 2 ^ k) / 2 ^ n % 2 = 0 ∨ (d ^^^ 2 ^ k) / 2 ^ n % 2 = 1 := by omega
  by_cases hk : k = n
  · subst hk
    rcases hd with hd | hd <;> rcases hz with hz | hz <;> simp [hd, hz] at h1 ⊢
  · rcases hd with hd | hd <;> rcases hz with hz | hz <;> simp [hd, hz, hk] at h1 ⊢

theorem quoN_flip (d k : Nat) : ∀ n, quoN n (d ^^^ 2 ^ k) = if k < n then quoN n d ^^^ quo k else quoN n d
  | 0 => by simp [quoN]
  | n + 1 => by
    rw [quoN, quoN, quoN_flip d k n, bit_flip]
    by_cases hk : k = n
    · subst hk
      have hd : d / 2 ^ k % 2 = 0 ∨ d / 2 ^ k % 2 = 1 := by omega
      rcases hd with hd | hd <;> simp [hd, Nat.xor_assoc]
    · by_cases hlt : k < n
      · have : k < n + 1 := by omega
        simp only [hk, hlt, this, if_false, if_true]
        split
        · rw [Nat.xor_assoc, Nat.xor_assoc, Nat.xor_comm (quo k)]
        · rfl
      · have : ¬ k < n + 1 := by omega
        simp only [hk, hlt, this, if_false]
theorem checkN_flip (d k : Nat) (hk : k < 64) : checkN (d ^^^ 2 ^ k) = checkN d ^^^ quo k := by rw [checkN_quo, checkN_quo, quoN_flip, if_pos hk]
theorem quo_ne (k i : Nat) (hk : k < 64) (hi : i < 8) : quo k ≠ 2 ^ i := by
  have : ∀ k : Fin 64, ∀ i : Fin 8, quo k.val ≠ 2 ^ i.val := by decide +kernel
  exact this ⟨k, hk⟩ ⟨i, hi⟩
theorem not_both (d c k i : Nat) (hk : k < 64) (hi : i < 8) (h1 : checkN d = c ^^^ 2 ^ i) (h2 : checkN (d ^^^ 2 ^ k) = c) : False := by
  rw [checkN_flip d k hk, h1] at h2
  apply quo_ne k i hk hi
  have : (c ^^^ 2 ^ i ^^^ quo k) ^^^ c = 0 := by rw [h2, Nat.xor_self]
  have h3 : 2 ^ i ^^^ quo k = 0 := by
    rw [← this, Nat.xor_assoc c, Nat.xor_comm c, Nat.xor_assoc, Nat.xor_self, Nat.xor_zero]
  have h4 : (2 ^ i ^^^ quo k) ^^^ 2 ^ i = 2 ^ i := by rw [h3, Nat.zero_xor]
  rw [Nat.xor_comm (2 ^ i), Nat.xor_assoc, Nat.xor_self, Nat.xor_zero] at h4
  exact h4

/-- the first i in [k, n) that satisfies p -/
def firstN (p : Nat → Bool) : Nat → Nat → Option Nat
  | 0, _ => none
  | f + 1, k => if p k then some k else firstN p f (k + 1)
theorem firstN_some {p : Nat → Bool} : ∀ (f k i : Nat), firstN p f k = some i → p i = true ∧ k ≤ i ∧ i < k + f
  | 0, k, i, h => by cases h
  | f + 1, k, i, h => by
    rw [firstN] at h
    split at h
    · rename_i hp
      injection h with h
      subst h
      exact ⟨hp, by omega, by omega⟩
    · have := firstN_some f (k + 1) i h
      exact ⟨this.1, by omega, by omega⟩

def mendA (d c : Nat) : Nat × Nat × Nat × Nat :=
  if checkN d = c then (d, c, 0, 0) else
  match firstN (fun i => checkN d == c ^^^ 2 ^ i) 8 0 with
  | some i => (d, c ^^^ 2 ^ i, 1, 0)
  | none => match firstN (fun i => checkN (d ^^^ 2 ^ i) == c) 64 0 with
    | some i => (d ^^^ 2 ^ i, c, 1, 0)
    | none => (0, 0, 0, 7)
def mendB (d c : Nat) : Nat × Nat × Nat × Nat :=
  if checkN d = c then (d, c, 0, 0) else
  match firstN (fun i => checkN (d ^^^ 2 ^ i) == c) 64 0 with
  | some i => (d ^^^ 2 ^ i, c, 1, 0)
  | none => match firstN (fun i => checkN d == c ^^^ 2 ^ i) 8 0 with
    | some i => (d, c ^^^ 2 ^ i, 1, 0)
    | none => (0, 0, 0, 7)
theorem mend_eq (d c : Nat) : mendA d c = mendB d c := by
  unfold mendA mendB
  split
  · rfl
  · cases h1 : firstN (fun i => checkN d == c ^^^ 2 ^ i) 8 0 with
    | none => rfl
    | some i =>
      cases h2 : firstN (fun i => checkN (d ^^^ 2 ^ i) == c) 64 0 with
      | none => rfl
      | some k =>
        have a := firstN_some _ _ _ h1
        have b := firstN_some _ _ _ h2
        exact absurd (not_both d c k i (by omega) (by omega) (by simpa using a.1) (by simpa using b.1)) id

/-! ### the number of one bits, in parallel -/
def val : List Nat → Nat
  | [] => 0
  | b :: l => b + 256 * val l
theorem and_split (b r m R : Nat) (hb : b < 256) (hm : m < 256) : (b + 256 * r) &&& (m + 256 * R) = (b &&& m) + 256 * (r &&& R) := by
  have h1 : b + 256 * r = 2 ^ 8 * r + b := by omega
  have h2 : m + 256 * R = 2 ^ 8 * R + m := by omega
  have h4 : b &&& m < 2 ^ 8 := Nat.and_lt_two_pow b hm
  have h3 : (b &&& m) + 256 * (r &&& R) = 2 ^ 8 * (r &&& R) + (b &&& m) := by omega
  rw [h1, h2, h3]
  apply Nat.eq_of_testBit_eq
  intro i
  rw [Nat.testBit_and, Nat.testBit_two_pow_mul_add r hb, Nat.testBit_two_pow_mul_add R hm, Nat.testBit_two_pow_mul_add _ h4]
  by_cases hi : i < 8
  · simp [hi]
  · simp [hi]
def maskN (m : Nat) (n : Nat) : Nat := val (List.replicate n m)
theorem maskN_succ (m n : Nat) : maskN m (n + 1) = m + 256 * maskN m n := rfl
def s1 (b : Nat) : Nat := (b / 2 &&& 85) + (b &&& 85)
def s2 (b : Nat) : Nat := (b / 4 &&& 51) + (b &&& 51)
def s3 (b : Nat) : Nat := b / 16 + b % 16
def nib (b : Nat) : Prop := b / 16 ≤ 4 ∧ b % 16 ≤ 4
theorem low1 : ∀ b : Fin 256, ∀ t : Fin 2, (b.val / 2 + 128 * t.val) &&& 85 = b.val / 2 &&& 85 := by decide +kernel
theorem low2 : ∀ b : Fin 256, ∀ t : Fin 4, (b.val / 4 + 64 * t.val) &&& 51 = b.val / 4 &&& 51 := by decide +kernel
theorem low3 : ∀ b : Fin 256, ∀ t : Fin 5, b.val / 16 ≤ 4 → b.val % 16 ≤ 4 → b.val / 16 + 16 * t.val + b.val < 256 ∧ (b.val / 16 + 16 * t.val + b.val) &&& 15 = b.val / 16 + b.val % 16 := by decide +kernel
theorem s1_lt : ∀ b : Fin 256, s1 b.val < 256 := by decide +kernel
theorem s12_nib : ∀ b : Fin 256, s2 (s1 b.val) / 16 ≤ 4 ∧ s2 (s1 b.val) % 16 ≤ 4 ∧ s2 (s1 b.val) < 256 := by decide +kernel
theorem s123 : ∀ b : Fin 256, s3 (s2 (s1 b.val)) = pop8 b.val := by decide +kernel
theorem pop8_le (b : Nat) : pop8 b ≤ 8 := by unfold pop8; omega

theorem step1 : ∀ l : List Nat, (∀ b ∈ l, b < 256) → (val l / 2 &&& maskN 85 l.length) + (val l &&& maskN 85 l.length) = val (l.map s1)
  | [], _ => by simp [val, maskN]
  | b :: l, h => by
    have hb : b < 256 := h b (by simp)
    have ih := step1 l (fun x hx => h x (by simp [hx]))
    rw [List.length_cons, maskN_succ, val, show (b + 256 * val l) / 2 = (b / 2 + 128 * (val l % 2)) + 256 * (val l / 2) by omega,
      and_split _ _ _ _ (by omega) (by omega), and_split _ _ _ _ hb (by omega), List.map_cons, val, ← ih, s1]
    have := low1 ⟨b, hb⟩ ⟨val l % 2, by omega⟩
    simp only at this
    rw [this]
    generalize (b / 2 &&& 85) = p
    generalize (b &&& 85) = q
    generalize (val l / 2 &&& maskN 85 l.length) = r
    generalize (val l &&& maskN 85 l.length) = s
    omega
theorem step2 : ∀ l : List Nat, (∀ b ∈ l, b < 256) → (val l / 4 &&& maskN 51 l.length) + (val l &&& maskN 51 l.length) = val (l.map s2)
  | [], _ => by simp [val, maskN]
  | b :: l, h => by
    have hb : b < 256 := h b (by simp)
    have ih := step2 l (fun x hx => h x (by simp [hx]))
    rw [List.length_cons, maskN_succ, val, show (b + 256 * val l) / 4 = (b / 4 + 64 * (val l % 4)) + 256 * (val l / 4) by omega,
      and_split _ _ _ _ (by omega) (by omega), and_split _ _ _ _ hb (by omega), List.map_cons, val, ← ih, s2]
    have := low2 ⟨b, hb⟩ ⟨val l % 4, by omega⟩
    simp only at this
    rw [this]
    generalize (b / 4 &&& 51) = p
    generalize (b &&& 51) = q
    generalize (val l / 4 &&& maskN 51 l.length) = r
    generalize (val l &&& maskN 51 l.length) = s
    omega
theorem step3 : ∀ l : List Nat, (∀ b ∈ l, b < 256 ∧ nib b) → (val l / 16 + val l) &&& maskN 15 l.length = val (l.map s3)
  | [], _ => by simp [val, maskN]
  | b :: l, h => by
    obtain ⟨hb, hn1, hn2⟩ := h b (by simp)
    have ih := step3 l (fun x hx => h x (by simp [hx]))
    have ht : val l % 16 ≤ 4 := by
      cases l with
      | nil => simp [val]
      | cons c l =>
        obtain ⟨hc, hc1, hc2⟩ := h c (by simp)
        rw [val]
        omega
    have := low3 ⟨b, hb⟩ ⟨val l % 16, by omega⟩ hn1 hn2
    simp only at this
    rw [List.length_cons, maskN_succ, val, show (b + 256 * val l) / 16 + (b + 256 * val l) = (b / 16 + 16 * (val l % 16) + b) + 256 * (val l / 16 + val l) by omega,
      and_split _ _ _ _ this.1 (by omega), this.2, ih, List.map_cons, val, s3]

def bytes8 (d : Nat) : List Nat := [d % 256, d / 256 % 256, d / 65536 % 256, d / 16777216 % 256, d / 4294967296 % 256, d / 1099511627776 % 256, d / 281474976710656 % 256, d / 72057594037927936 % 256]
theorem bytes8_val (d : Nat) (h : d < 18446744073709551616) : val (bytes8 d) = d := by
  simp only [bytes8, val]
  omega
theorem bytes8_lt (d : Nat) : ∀ b ∈ bytes8 d, b < 256 := by
  intro b hb
  simp only [bytes8, List.mem_cons, List.not_mem_nil, or_false] at hb
  rcases hb with rfl | rfl | rfl | rfl | rfl | rfl | rfl | rfl <;> exact Nat.mod_lt _ (by decide)

def swar1 (x : Nat) : Nat := (x / 2 &&& 6148914691236517205) + (x &&& 6148914691236517205)
def swar2 (x : Nat) : Nat := (x / 4 &&& 3689348814741910323) + (x &&& 3689348814741910323)
def swar3 (x : Nat) : Nat := (x / 16 + x) &&& 1085102592571150095
theorem swar1_lt (x : Nat) : swar1 x ≤ 12297829382473034410 := by
  have := Nat.and_le_right (n := x / 2) (m := 6148914691236517205)
  have := Nat.and_le_right (n := x) (m := 6148914691236517205)
  unfold swar1
  omega
theorem swar2_lt (x : Nat) : swar2 x ≤ 7378697629483820646 := by
  have := Nat.and_le_right (n := x / 4) (m := 3689348814741910323)
  have := Nat.and_le_right (n := x) (m := 3689348814741910323)
  unfold swar2
  omega
theorem swar3_lt (x : Nat) : swar3 x ≤ 1085102592571150095 := Nat.and_le_right
theorem mask85 : maskN 85 8 = 6148914691236517205 := by decide
theorem mask51 : maskN 51 8 = 3689348814741910323 := by decide
theorem mask15 : maskN 15 8 = 1085102592571150095 := by decide
theorem bytes8_len (d : Nat) : (bytes8 d).length = 8 := rfl
theorem swar_val (d : Nat) (h : d < 18446744073709551616) : swar3 (swar2 (swar1 d)) = val ((bytes8 d).map pop8) := by
  have e1 : swar1 d = val ((bytes8 d).map s1) := by
    have := step1 (bytes8 d) (bytes8_lt d)
    rw [bytes8_val d h, bytes8_len, mask85] at this
    unfold swar1
    exact this
  have e2 : swar2 (swar1 d) = val (((bytes8 d).map s1).map s2) := by
    rw [e1]
    have := step2 ((bytes8 d).map s1) (by
      intro b hb
      obtain ⟨c, hc, rfl⟩ := List.mem_map.1 hb
      exact s1_lt ⟨c, bytes8_lt d c hc⟩)
    rw [List.length_map, bytes8_len, mask51] at this
    unfold swar2
    exact this
  have e3 : swar3 (swar2 (swar1 d)) = val ((((bytes8 d).map s1).map s2).map s3) := by
    rw [e2]
    have := step3 (((bytes8 d).map s1).map s2) (by
      intro b hb
      obtain ⟨c, hc, rfl⟩ := List.mem_map.1 hb
      obtain ⟨a, ha, rfl⟩ := List.mem_map.1 hc
      have := s12_nib ⟨a, bytes8_lt d a ha⟩
      exact ⟨this.2.2, this.1, this.2.1⟩)
    rw [List.length_map, List.length_map, bytes8_len, mask15] at this
    unfold swar3
    exact this
  rw [e3, List.map_map, List.map_map]
  congr 1
  exact List.map_congr_left fun b hb => s123 ⟨b, bytes8_lt d b hb⟩
def swarE (x : Nat) : Nat := let a := x + x / 256; let b := a + a / 65536; (b + b / 4294967296) % 128
theorem swarE_val (u0 u1 u2 u3 u4 u5 u6 u7 : Nat) (h0 : u0 ≤ 8) (h1 : u1 ≤ 8) (h2 : u2 ≤ 8) (h3 : u3 ≤ 8) (h4 : u4 ≤ 8) (h5 : u5 ≤ 8) (h6 : u6 ≤ 8) (h7 : u7 ≤ 8) :
    swarE (val [u0, u1, u2, u3, u4, u5, u6, u7]) = u0 + u1 + u2 + u3 + u4 + u5 + u6 + u7 := by
  have d1 : val [u0, u1, u2, u3, u4, u5, u6, u7] / 256 = val [u1, u2, u3, u4, u5, u6, u7] := by simp only [val]; omega
  have a1 : val [u0, u1, u2, u3, u4, u5, u6, u7] + val [u1, u2, u3, u4, u5, u6, u7] = val [u0 + u1, u1 + u2, u2 + u3, u3 + u4, u4 + u5, u5 + u6, u6 + u7, u7] := by simp only [val]; omega
  have d2 : val [u0 + u1, u1 + u2, u2 + u3, u3 + u4, u4 + u5, u5 + u6, u6 + u7, u7] / 65536 = val [u2 + u3, u3 + u4, u4 + u5, u5 + u6, u6 + u7, u7] := by simp only [val]; omega
  have a2 : val [u0 + u1, u1 + u2, u2 + u3, u3 + u4, u4 + u5, u5 + u6, u6 + u7, u7] + val [u2 + u3, u3 + u4, u4 + u5, u5 + u6, u6 + u7, u7] =
      val [u0 + u1 + u2 + u3, u1 + u2 + u3 + u4, u2 + u3 + u4 + u5, u3 + u4 + u5 + u6, u4 + u5 + u6 + u7, u5 + u6 + u7, u6 + u7, u7] := by simp only [val]; omega
  have d3 : val [u0 + u1 + u2 + u3, u1 + u2 + u3 + u4, u2 + u3 + u4 + u5, u3 + u4 + u5 + u6, u4 + u5 + u6 + u7, u5 + u6 + u7, u6 + u7, u7] / 4294967296 = val [u4 + u5 + u6 + u7, u5 + u6 + u7, u6 + u7, u7] := by simp only [val]; omega
  unfold swarE
  simp only
  rw [d1, a1, d2, a2, d3]
  simp only [val]
  omega
theorem byte_bit (d j t : Nat) (ht : t < 8) : d / 2 ^ (8 * j) % 256 / 2 ^ t % 2 = d / 2 ^ (8 * j + t) % 2 := by
  have h := Nat.testBit_mod_two_pow (d / 2 ^ (8 * j)) 8 t
  rw [Nat.testBit_div_two_pow] at h
  simp only [ht, decide_true, Bool.true_and, Nat.testBit_eq_decide_div_mod_eq] at h
  have h1 : d / 2 ^ (8 * j) % 2 ^ 8 / 2 ^ t % 2 = 0 ∨ d / 2 ^ (8 * j) % 2 ^ 8 / 2 ^ t % 2 = 1 := by omega
  have h2 : d / 2 ^ (t + 8 * j) % 2 = 0 ∨ d / 2 ^ (t + 8 * j) % 2 = 1 := by omega
  rw [show (256 : Nat) = 2 ^ 8 from rfl, Nat.add_comm (8 * j)]
  rcases h1 with h1 | h1 <;> rcases h2 with h2 | h2 <;> simp [h1, h2] at h ⊢
theorem pop8_byte (d j : Nat) : pop8 (d / 2 ^ (8 * j) % 256) = d / 2 ^ (8 * j) % 2 + d / 2 ^ (8 * j + 1) % 2 + d / 2 ^ (8 * j + 2) % 2 + d / 2 ^ (8 * j + 3) % 2 + d / 2 ^ (8 * j + 4) % 2 + d / 2 ^ (8 * j + 5) % 2 + d / 2 ^ (8 * j + 6) % 2 + d / 2 ^ (8 * j + 7) % 2 := by
  have k0 := byte_bit d j 0 (by omega)
  have k1 := byte_bit d j 1 (by omega)
  have k2 := byte_bit d j 2 (by omega)
  have k3 := byte_bit d j 3 (by omega)
  have k4 := byte_bit d j 4 (by omega)
  have k5 := byte_bit d j 5 (by omega)
  have k6 := byte_bit d j 6 (by omega)
  have k7 := byte_bit d j 7 (by omega)
  generalize d / 2 ^ (8 * j) % 256 = b at k0 k1 k2 k3 k4 k5 k6 k7 ⊢
  simp only [Nat.reducePow, Nat.div_one, Nat.add_zero] at k0 k1 k2 k3 k4 k5 k6 k7
  unfold pop8
  rw [k0, k1, k2, k3, k4, k5, k6, k7]
theorem ones_8 (d j : Nat) : onesN (8 * j + 8) d = onesN (8 * j) d + pop8 (d / 2 ^ (8 * j) % 256) := by
  rw [pop8_byte]
  simp only [onesN, Nat.add_assoc]
theorem ones_bytes (d : Nat) : onesN 64 d = pop8 (d % 256) + pop8 (d / 256 % 256) + pop8 (d / 65536 % 256) + pop8 (d / 16777216 % 256) + pop8 (d / 4294967296 % 256) + pop8 (d / 1099511627776 % 256) + pop8 (d / 281474976710656 % 256) + pop8 (d / 72057594037927936 % 256) := by
  have j0 := ones_8 d 0
  have j1 := ones_8 d 1
  have j2 := ones_8 d 2
  have j3 := ones_8 d 3
  have j4 := ones_8 d 4
  have j5 := ones_8 d 5
  have j6 := ones_8 d 6
  have j7 := ones_8 d 7
  simp only [Nat.reduceMul, Nat.reduceAdd, Nat.reducePow, Nat.div_one] at j0 j1 j2 j3 j4 j5 j6 j7
  rw [j7, j6, j5, j4, j3, j2, j1, j0, onesN, Nat.zero_add]
theorem swar_all (d : Nat) (h : d < 18446744073709551616) : swarE (swar3 (swar2 (swar1 d))) = onesN 64 d := by
  rw [swar_val d h]
  simp only [bytes8, List.map_cons, List.map_nil]
  rw [swarE_val _ _ _ _ _ _ _ _ (pop8_le _) (pop8_le _) (pop8_le _) (pop8_le _) (pop8_le _) (pop8_le _) (pop8_le _) (pop8_le _), ones_bytes]
theorem ones_le (d : Nat) : ∀ n, onesN n d ≤ n
  | 0 => by simp [onesN]
  | n + 1 => by have := ones_le d n; rw [onesN]; omega
theorem pop8_half (x : Nat) (h : x < 256) : pop8 x = x % 2 + pop8 (x / 2) := by
  have key : ∀ b : Fin 256, pop8 b.val = b.val % 2 + pop8 (b.val / 2) := by decide +kernel
  exact key ⟨x, h⟩
end Ecc
end Go.Proofs.YtgfldhdmdeeknaaGreatDoor
namespace Go.Proofs.YtgfldhdmdeeknaaGreatDoor
set_option maxRecDepth 100000
open Go.RowKit
namespace Ecc

theorem i64_and_nat (a b : Nat) (ha : a < 9223372036854775808) (hb : b < 9223372036854775808) : bits .and .i64 (a : Int) (b : Int) = ((a &&& b : Nat) : Int) := by
  have hx : a &&& b ≤ a := Nat.and_le_left
  show IntKind.i64.wrap ((BitVec.ofInt 64 (a : Int) &&& BitVec.ofInt 64 (b : Int)).toNat : Int) = _
  rw [BitVec.toNat_and, ofInt_i64 a ha, ofInt_i64 b hb, IntKind.wrap_i64]
  omega

theorem ones_bridge : ∀ b : Fin 256, Lib.onesCount b.val = pop8 b.val := by decide +kernel
set_option maxRecDepth 100000 in
theorem ones8_int (x : Int) (w : World) (h0 : 0 ≤ x) (h1 : x ≤ 255) : Calls Tryz.prog 15 #[.int .u8 x] w fun e w' => e = .returned (.int .i64 (Lib.onesCount x.toNat)) ∧ w = w' := by
  rw [← Lib.pop8_int x h0 h1]
  go_enter Tryz.func15, Tryz.ntmps15
  go_wp2
  go_ret
  refine ⟨?_, rfl⟩
  show Ending.returned (Value.int .i64 (wrap64 (Lib.pop8 x))) = _
  rw [wrap64]
theorem ones8_any (x : Nat) (hx : x < 256) (w : World) : Calls Tryz.prog 15 #[.int .u8 (x : Int)] w fun e w' => e = .returned (.int .i64 (pop8 x : Int)) ∧ w = w' := by
  have := ones8_int (x : Int) w (by omega) (by omega)
  rw [Int.toNat_natCast, ones_bridge ⟨x, hx⟩] at this
  exact this

set_option maxHeartbeats 800000 in
theorem ones64_any (d : Nat) (hd : d < 18446744073709551616) (w : World) : Calls Tryz.prog 14 #[.int .u64 (d : Int)] w fun e w' => e = .returned (.int .i64 (onesN 64 d : Int)) ∧ w = w' := by
  have HS := swar_all d hd
  unfold swarE swar3 swar2 swar1 at HS
  simp only at HS
  have e1 : bits .and .u64 ((d : Int) / 2) 6148914691236517205 = ((d / 2 &&& 6148914691236517205 : Nat) : Int) := u64_and_nat (d / 2) 6148914691236517205 (by omega) (by omega)
  have e2 : bits .and .u64 (d : Int) 6148914691236517205 = ((d &&& 6148914691236517205 : Nat) : Int) := u64_and_nat d 6148914691236517205 (by omega) (by omega)
  have l1 : d / 2 &&& 6148914691236517205 ≤ 6148914691236517205 := Nat.and_le_right
  have l2 : d &&& 6148914691236517205 ≤ 6148914691236517205 := Nat.and_le_right
  generalize d / 2 &&& 6148914691236517205 = a at HS e1 l1
  generalize d &&& 6148914691236517205 = b at HS e2 l2
  have e3 : bits .and .u64 (((a : Int) + (b : Int)) / 4) 3689348814741910323 = (((a + b) / 4 &&& 3689348814741910323 : Nat) : Int) := u64_and_nat ((a + b) / 4) 3689348814741910323 (by omega) (by omega)
  have e4 : bits .and .u64 ((a : Int) + (b : Int)) 3689348814741910323 = ((a + b &&& 3689348814741910323 : Nat) : Int) := u64_and_nat (a + b) 3689348814741910323 (by omega) (by omega)
  have l3 : (a + b) / 4 &&& 3689348814741910323 ≤ 3689348814741910323 := Nat.and_le_right
  have l4 : a + b &&& 3689348814741910323 ≤ 3689348814741910323 := Nat.and_le_right
  generalize (a + b) / 4 &&& 3689348814741910323 = a' at HS e3 l3
  generalize a + b &&& 3689348814741910323 = b' at HS e4 l4
  have e5 : bits .and .u64 (((a' : Int) + (b' : Int)) / 16 + ((a' : Int) + (b' : Int))) 1085102592571150095 = (((a' + b') / 16 + (a' + b') &&& 1085102592571150095 : Nat) : Int) := u64_and_nat ((a' + b') / 16 + (a' + b')) 1085102592571150095 (by omega) (by omega)
  have l5 : (a' + b') / 16 + (a' + b') &&& 1085102592571150095 ≤ 1085102592571150095 := Nat.and_le_right
  generalize (a' + b') / 16 + (a' + b') &&& 1085102592571150095 = c at HS e5 l5
  have e6 : bits .and .i64 ((c : Int) + (c : Int) / 256 + ((c : Int) + (c : Int) / 256) / 65536 + ((c : Int) + (c : Int) / 256 + ((c : Int) + (c : Int) / 256) / 65536) / 4294967296) 127 = (onesN 64 d : Int) := by
    rw [← HS]
    have := i64_and_nat (c + c / 256 + (c + c / 256) / 65536 + (c + c / 256 + (c + c / 256) / 65536) / 4294967296) 127 (by omega) (by omega)
    rw [show (127 : Nat) = 2 ^ 7 - 1 from rfl, Nat.and_two_pow_sub_one_eq_mod] at this
    exact this
  generalize onesN 64 d = o at e6
  clear HS
  go_enter Tryz.func14, Tryz.ntmps14
  go_wp2
  go_ret
  exact ⟨rfl, rfl⟩

def byteV (x : Nat) : Value := .int .u8 (x : Int)
def posK (k : Nat) : List Nat := posL.take k ++ List.replicate (64 - k) 0
def nxt (k : Nat) : Nat := if k = 0 then 3 else pos (k - 1) + 1
theorem posK_set (k : Nat) (hk : k < 64) : (posK k).set k (pos k) = posK (k + 1) := by
  have : ∀ k : Fin 64, (posK k.val).set k.val (pos k.val) = posK (k.val + 1) := by decide +kernel
  exact this ⟨k, hk⟩
theorem posK_at (k : Nat) (hk : k < 64) : (posK k)[k]? = some 0 := by
  have : ∀ k : Fin 64, (posK k.val)[k.val]? = some 0 := by decide +kernel
  exact this ⟨k, hk⟩
theorem posK_len (k : Nat) (hk : k ≤ 64) : (posK k).length = 64 := by
  simp [posK, posL]
  omega
theorem nxt_or (k : Nat) (hk : k < 64) : nxt k = pos k ∨ (nxt k + 1 = pos k ∧ nxt k &&& (nxt k - 1) = 0) := by
  have : ∀ k : Fin 64, nxt k.val = pos k.val ∨ (nxt k.val + 1 = pos k.val ∧ nxt k.val &&& (nxt k.val - 1) = 0) := by decide +kernel
  exact this ⟨k, hk⟩
theorem pos_and (k : Nat) (hk : k < 64) : 3 ≤ pos k ∧ pos k ≤ 71 ∧ pos k &&& (pos k - 1) ≠ 0 := by
  have : ∀ k : Fin 64, 3 ≤ pos k.val ∧ pos k.val ≤ 71 ∧ pos k.val &&& (pos k.val - 1) ≠ 0 := by decide +kernel
  exact this ⟨k, hk⟩
theorem map_set_byte (l : List Nat) (k x : Nat) : (l.map byteV).set k (.int .u8 (x : Int)) = (l.set k x).map byteV := by rw [List.map_set]; rfl
theorem map_at_byte {l : List Nat} {k x : Nat} (h : l[k]? = some x) : (l.map byteV)[k]? = some (.int .u8 (x : Int)) := by rw [List.getElem?_map, h]; rfl
def bz : List Nat := posK 0
def posV : Value := .agg (posL.map byteV).toArray
theorem posK_full : posK 64 = posL := by decide
theorem info64 : (Tryz.prog.info? 41).map (·.size) = some (posL.map byteV).length := by kernel_rfl
theorem one64 (l : List Nat) : (l.map byteV).toArray.all (·.oneCell') = true := by
  rw [Array.all_eq_true_iff_forall_mem]
  intro v hv
  simp at hv
  obtain ⟨x, _, rfl⟩ := hv
  rfl

set_option maxHeartbeats 1600000 in
theorem positions_any (w : World) : Calls Tryz.prog 13 #[] w (Ret w posV) := by
  have F0 : Hid (Blk ((w.alloc (.cells ((posK 0).map byteV).toArray 41)).alloc (.cells ((posK 0).map byteV).toArray 41)) w.heap.size 41 ((posK 0).map byteV)) := Lib.hid ((Blk.new w _ _).alloc _)
  have F1 : Hid (Blk ((w.alloc (.cells ((posK 0).map byteV).toArray 41)).alloc (.cells ((posK 0).map byteV).toArray 41)) (w.heap.size + 1) 41 ((posK 0).map byteV)) := Lib.hid (by
    have := Blk.new (w.alloc (.cells ((posK 0).map byteV).toArray 41)) 41 ((posK 0).map byteV)
    rwa [show (w.alloc (.cells ((posK 0).map byteV).toArray 41)).heap.size = w.heap.size + 1 by simp] at this)
  have hB0 : Below w.heap.size w ((w.alloc (.cells ((posK 0).map byteV).toArray 41)).alloc (.cells ((posK 0).map byteV).toArray 41)) := ((Below.refl _ _).alloc (Nat.le_refl _) _).alloc (by simp) _
  go_enter Tryz.func13, Tryz.ntmps13
  go_wp2
  go_loopg [2, 4] 64 (fun g p i wr => ∃ k : Nat, k ≤ 64 ∧ g = 64 - k ∧ i = .int .i64 k ∧ p = .int .u8 (nxt k : Int) ∧ Blk wr w.heap.size 41 ((posK 0).map byteV) ∧ Blk wr (w.heap.size + 1) 41 ((posK k).map byteV) ∧ Below w.heap.size w wr)
  case atStart => exact ⟨0, by omega, rfl, rfl, rfl, F0.out, F1.out, hB0⟩
  case round =>
    obtain ⟨k, hk, rfl, rfl, rfl, hz, hp, hB⟩ := hrel
    have HZ := Lib.hid hz
    have HP := Lib.hid hp
    have hz1 := hp.lt
    clear hz hp F0 F1 hB0
    by_cases hlt : k < 64
    · obtain ⟨p3, p71, pne⟩ := pos_and k hlt
      have hor := nxt_or k hlt
      have HN : Hid (nxt (k + 1) = pos k + 1) := Lib.hid (by simp [nxt])
      generalize nxt k = x at hor ⊢
      have hc := map_at_byte (posK_at k hlt)
      have hst := map_set_byte (posK k) k (pos k)
      rw [posK_set k hlt] at hst
      have HST := Lib.hid hst
      have u0 := HP.out.froz (k := k)
      have u1 := HP.out.cell hc
      have i0 : (0 : Int) ≤ (k : Int) := by omega
      have i1 : (k : Int) < 64 := by omega
      have hx3 : 2 ≤ x ∧ x ≤ 71 := by omega
      have hxb : bits .and .u8 (x : Int) ((x : Int) - 1) = ((x &&& (x - 1) : Nat) : Int) := by
        have := u8_and_nat x (x - 1) (by omega) (by omega)
        rwa [show ((x - 1 : Nat) : Int) = (x : Int) - 1 by omega] at this
      have hpb : bits .and .u8 (pos k : Int) ((pos k : Int) - 1) = ((pos k &&& (pos k - 1) : Nat) : Int) := by
        have := u8_and_nat (pos k) (pos k - 1) (by omega) (by omega)
        rwa [show ((pos k - 1 : Nat) : Int) = (pos k : Int) - 1 by omega] at this
      have htp : (((pos k &&& (pos k - 1) : Nat) : Int) == 0) = false := by simpa using pne
      have hS : Blk (wr.setCell ⟨w.heap.size + 1, k, none⟩ (.int .u8 (pos k : Int))) (w.heap.size + 1) 41 ((posK (k + 1)).map byteV) := by
        have := HP.out.set (k := k) (.int .u8 (pos k : Int))
        rwa [hst] at this
      have hS' := HZ.out.other (g' := w.heap.size + 1) (k := k) (by omega) (.int .u8 (pos k : Int))
      have hB1 := hB.setCell (p := ⟨w.heap.size + 1, k, none⟩) (by simp) (.int .u8 (pos k : Int))
      have HS := Lib.hid hS
      have HS' := Lib.hid hS'
      generalize pos k &&& (pos k - 1) = pz at hpb htp pne
      have HOR := Lib.hid hor
      clear hc hst hS hS' hor
      obtain ⟨wo, rfl⟩ : ∃ wo : World, wo = wr := ⟨_, rfl⟩
      rcases HOR.out with hx | ⟨hx, hx0⟩
      · subst hx
        clear HOR hxb hx3
        go_wp2
        go_loopg [2] 1 (fun g p wi => p = .int .u8 (pos k : Int) ∧ wi = wo)
        case atStart => exact ⟨rfl, rfl⟩
        case round =>
          obtain ⟨rfl, rfl⟩ := hrel
          go_wp2
          go_roundg (64 - (k + 1))
          case measure => omega
          case rel => exact ⟨k + 1, by omega, rfl, by go_num, int_eq (by rw [HN.out]; push_cast; rfl), HS'.out, HS.out, hB1⟩
      · rw [hx0] at hxb
        have e1 : (x : Int) + 1 = (pos k : Int) := by omega
        clear HOR hx0
        go_wp2
        go_loopg [2] 1 (fun g p wi => ((g = 1 ∧ p = .int .u8 (x : Int)) ∨ (g = 0 ∧ p = .int .u8 (pos k : Int))) ∧ wi = wo)
        case atStart => exact ⟨.inl ⟨rfl, rfl⟩, rfl⟩
        case round =>
          obtain ⟨⟨rfl, rfl⟩ | ⟨rfl, rfl⟩, rfl⟩ := hrel
          · have E1 := Lib.hid e1
            clear e1 hx
            go_wp2
            go_roundg 0
            case measure => omega
            case rel => exact ⟨.inr ⟨rfl, int_eq (by rw [E1.out])⟩, rfl⟩
          · clear e1 hx hxb
            go_wp2
            go_roundg (64 - (k + 1))
            case measure => omega
            case rel => exact ⟨k + 1, by omega, rfl, by go_num, int_eq (by rw [HN.out]; push_cast; rfl), HS'.out, HS.out, hB1⟩
    · obtain rfl : k = 64 := by omega
      rw [posK_full] at HP
      clear hlt hk
      go_wp2_with (first
        | refine wpList_load_row rfl 41 (.tmp 1) rfl (w.heap.size + 1) rfl 41 (posL.map byteV).toArray (0, 0) (.array 64 5) HP.out Tryz.underlying41 rfl info64 ?_
        | refine wpList_store_row rfl 41 (.tmp 0) (.tmp 20) rfl w.heap.size (posL.map byteV).toArray rfl rfl 41 ((posK 0).map byteV).toArray HZ.out info64 (by decide) (one64 posL) ?_)
      have hld := (HZ.out.row (posL.map byteV)).load Tryz.underlying41 info64
      have hB3 := below_row hB (Nat.le_refl _) (posL.map byteV).toArray
      refine bodyPost_ret (v := posV) ?_ rfl ?_
      · simp [results, Tryz.results13, Act.put, asAddr, posV, hld]
      · exact ⟨rfl, hB3⟩

theorem index_pos (k : Nat) (hk : k < 64) (w : World) : (Instr.index 41 posV (.int .i64 (k : Int))).run Tryz.prog w = .ok (.int .u8 (pos k : Int)) w := by
  refine run_index_one Tryz.underlying41 (fun _ => rfl) (fun _ => rfl) hk ?_ w
  have : ∀ k : Fin 64, posL[k.val]? = some (pos k.val) := by decide +kernel
  simp only [List.getElem?_toArray]
  exact map_at_byte (this ⟨k, hk⟩)

theorem shr_bit (d k : Nat) (hd : d < 18446744073709551616) : bits .and .u64 ((d : Int) / 2 ^ k) 1 = ((d / 2 ^ k % 2 : Nat) : Int) := by
  have := u64_and_nat (d / 2 ^ k) 1 (Nat.lt_of_le_of_lt (Nat.div_le_self _ _) hd) (by omega)
  rw [show d / 2 ^ k &&& 1 = d / 2 ^ k % 2 from Nat.and_two_pow_sub_one_eq_mod _ 1] at this
  rw [← this]
  push_cast
  rfl

set_option maxHeartbeats 1600000 in
theorem check_any (d : Nat) (hd : d < 18446744073709551616) (w : World) : Calls Tryz.prog 6 #[.int .u64 (d : Int)] w (Ret w (.int .u8 (checkN d : Int))) := by
  have ip := index_pos
  have hsr := fun k => shr_bit d k hd
  go_enter Tryz.func6, Tryz.ntmps6
  go_wp2_with fail
  refine (positions_any _).mono ?_; rintro e w1 ⟨rfl, hb1⟩
  have HB1 := Lib.hid hb1
  obtain ⟨pv, hpv⟩ : ∃ pv, pv = posV := ⟨_, rfl⟩
  rw [← hpv] at ip ⊢
  clear hpv hb1
  have HIP := Lib.hid ip
  have HSR := Lib.hid hsr
  clear ip hsr
  go_wp2_with fail
  go_loopg [3, 7] 64 (fun g c i wr => ∃ k : Nat, k ≤ 64 ∧ g = 64 - k ∧ i = .int .i64 k ∧ c = .int .u8 (xorN k d : Int) ∧ wr = w1)
  case atStart => exact ⟨0, by omega, rfl, rfl, rfl, rfl⟩
  case round =>
    obtain ⟨k, hk, rfl, rfl, rfl, rfl⟩ := hrel
    by_cases hlt : k < 64
    · have ik := HIP.out k hlt
      have sk := HSR.out k
      have hx := xorN_lt d k
      have hp := pos_lt k
      have i0 : (0 : Int) ≤ (k : Int) := by omega
      have i1 : (k : Int) < 64 := by omega
      have ex : bits .xor .u8 (xorN k d : Int) (pos k : Int) = ((xorN k d ^^^ pos k : Nat) : Int) := u8_xor_nat _ _ (by omega) (by omega)
      by_cases hbit : d / 2 ^ k % 2 = 1
      · have HN : Hid (xorN (k + 1) d = xorN k d ^^^ pos k) := Lib.hid (by rw [xorN, if_pos hbit])
        rw [hbit] at sk
        clear hbit
        generalize xorN k d = x at hx ex HN ⊢
        generalize pos k = p at hp ex HN ik
        go_wp2
        go_roundg (64 - (k + 1))
        case measure => omega
        case rel => exact ⟨k + 1, by omega, rfl, by go_num, int_eq (by rw [HN.out]), rfl⟩
      · have HN : Hid (xorN (k + 1) d = xorN k d) := Lib.hid (by rw [xorN, if_neg hbit])
        rw [show d / 2 ^ k % 2 = 0 by omega] at sk
        clear hbit ex
        generalize xorN k d = x at hx HN ⊢
        go_wp2
        go_roundg (64 - (k + 1))
        case measure => omega
        case rel => exact ⟨k + 1, by omega, rfl, by go_num, int_eq (by rw [HN.out]), rfl⟩
    · obtain rfl : k = 64 := by omega
      have hx := xorN_lt d 64
      have hol := ones_le d 64
      have hpl := pop8_le (xorN 64 d)
      have HC : Hid (checkN d = xorN 64 d + 128 * ((onesN 64 d + pop8 (xorN 64 d)) % 2)) := Lib.hid rfl
      have c1 := Lib.hid (fun W => ones64_any d hd W)
      have c2 := Lib.hid (fun W => ones8_any (xorN 64 d) (by omega) W)
      have eo : bits .or .u8 (xorN 64 d : Int) 128 = ((xorN 64 d + 128 : Nat) : Int) := by
        have := u8_or_nat (xorN 64 d) 128 (by omega) (by omega)
        rw [Nat.or_comm, nat_join 7 128 (xorN 64 d) (by decide) (by omega), Nat.add_comm] at this
        exact this
      generalize xorN 64 d = x at hx hpl HC c2 eo ⊢
      generalize onesN 64 d = o at hol HC c1
      generalize pop8 x = q at hpl HC c2
      clear hlt hk
      by_cases hpar : (o + q) % 2 = 1
      · have e1 : ((((o : Int) + (q : Int)) % 2) == 1) = true := by simp; omega
        have HE : Hid (checkN d = x + 128) := Lib.hid (by rw [HC.out, hpar])
        clear hpar HC
        go_wp2_with (first
          | (go_at_call 14; refine (c1.out _).mono ?_; rintro e w2 ⟨rfl, rfl⟩)
          | (go_at_call 15; refine (c2.out _).mono ?_; rintro e w2 ⟨rfl, rfl⟩))
        go_ret
        exact Ret.mk (int_eq (by simp only [HE.out, Int.natCast_add]; rfl)) HB1.out
      · have e1 : ((((o : Int) + (q : Int)) % 2) == 1) = false := by simp; omega
        have HE : Hid (checkN d = x) := Lib.hid (by rw [HC.out, show (o + q) % 2 = 0 by omega]; rfl)
        clear hpar HC eo
        go_wp2_with (first
          | (go_at_call 14; refine (c1.out _).mono ?_; rintro e w2 ⟨rfl, rfl⟩)
          | (go_at_call 15; refine (c2.out _).mono ?_; rintro e w2 ⟨rfl, rfl⟩))
        go_ret
        exact Ret.mk (int_eq (by simp only [HE.out])) HB1.out
end Ecc
end Go.Proofs.YtgfldhdmdeeknaaGreatDoor
namespace Go.Proofs.YtgfldhdmdeeknaaGreatDoor
set_option maxRecDepth 100000
open Go.RowKit
namespace Ecc

def mval (r : Nat × Nat × Nat × Nat) : Value := .tuple #[.int .u64 (r.1 : Int), .int .u8 (r.2.1 : Int), .int .i64 (r.2.2.1 : Int), .int .i64 (r.2.2.2 : Int)]
theorem mval_eq {r r' : Nat × Nat × Nat × Nat} (h : r = r') : mval r = mval r' := by rw [h]
theorem shl_small : ∀ q : Nat, q < 8 → ((2 : Int) ^ q) % 256 = ((2 ^ q : Nat) : Int) := by decide
theorem shl_big : ∀ q : Nat, q < 64 → IntKind.u64.wrap ((2 : Int) ^ q) = ((2 ^ q : Nat) : Int) := by decide +kernel
/-- what is yet to be tried: the check bits from i on, and the word's from k on, in either order -/
def bitsC (d c i : Nat) (r : Nat × Nat × Nat × Nat) : Nat × Nat × Nat × Nat := match firstN (fun i => checkN d == c ^^^ 2 ^ i) (8 - i) i with
  | some i => (d, c ^^^ 2 ^ i, 1, 0)
  | none => r
def bitsD (d c k : Nat) (r : Nat × Nat × Nat × Nat) : Nat × Nat × Nat × Nat := match firstN (fun k => checkN (d ^^^ 2 ^ k) == c) (64 - k) k with
  | some k => (d ^^^ 2 ^ k, c, 1, 0)
  | none => r
theorem bitsC_hit {d c i : Nat} {r} (hi : i < 8) (h : checkN d = c ^^^ 2 ^ i) : bitsC d c i r = (d, c ^^^ 2 ^ i, 1, 0) := by
  unfold bitsC
  rw [show 8 - i = (7 - i) + 1 by omega, firstN, if_pos (by simpa using h)]
theorem bitsC_miss {d c i : Nat} {r} (hi : i < 8) (h : checkN d ≠ c ^^^ 2 ^ i) : bitsC d c i r = bitsC d c (i + 1) r := by
  unfold bitsC
  rw [show 8 - i = (7 - i) + 1 by omega, firstN, if_neg (by simpa using h), show 7 - i = 8 - (i + 1) by omega]
theorem bitsC_end {d c : Nat} {r} : bitsC d c 8 r = r := rfl
theorem bitsD_hit {d c i : Nat} {r} (hi : i < 64) (h : checkN (d ^^^ 2 ^ i) = c) : bitsD d c i r = (d ^^^ 2 ^ i, c, 1, 0) := by
  unfold bitsD
  rw [show 64 - i = (63 - i) + 1 by omega, firstN, if_pos (by simpa using h)]
theorem bitsD_miss {d c i : Nat} {r} (hi : i < 64) (h : checkN (d ^^^ 2 ^ i) ≠ c) : bitsD d c i r = bitsD d c (i + 1) r := by
  unfold bitsD
  rw [show 64 - i = (63 - i) + 1 by omega, firstN, if_neg (by simpa using h), show 63 - i = 64 - (i + 1) by omega]
theorem bitsD_end {d c : Nat} {r} : bitsD d c 64 r = r := rfl
theorem mendA_eq (d c : Nat) : mendA d c = if checkN d = c then (d, c, 0, 0) else bitsC d c 0 (bitsD d c 0 (0, 0, 0, 7)) := rfl
theorem mendB_eq (d c : Nat) : mendA d c = if checkN d = c then (d, c, 0, 0) else bitsD d c 0 (bitsC d c 0 (0, 0, 0, 7)) := by rw [mend_eq]; rfl

set_option maxHeartbeats 1000000 in
theorem mend_any (d c : Nat) (hd : d < 18446744073709551616) (hc : c < 256) (w : World) : Calls Tryz.prog 7 #[.int .u64 (d : Int), .int .u8 (c : Int)] w (Ret w (mval (mendA d c))) := by
  by_cases h0 : checkN d = c
  · have HE : Hid (mendA d c = (d, c, 0, 0)) := Lib.hid (by rw [mendA_eq, if_pos h0])
    have cK := Lib.hid (fun W => check_any d hd W)
    rw [h0] at cK
    clear h0
    go_enter Tryz.func7, Tryz.ntmps7
    go_wp2_with fail
    refine (cK.out _).mono ?_; rintro e w1 ⟨rfl, hb1⟩
    go_wp2
    refine bodyPost_ret (v := mval (d, c, 0, 0)) (by simp [results, Tryz.results7, mval]) rfl ?_
    exact Ret.mk (mval_eq HE.out.symm) hb1
  · have HM := Lib.hid ((mendA_eq d c).trans (if_neg h0))
    have ht : ((checkN d : Int) == (c : Int)) = false := by simp; omega
    go_enter Tryz.func7, Tryz.ntmps7
    go_wp2_with fail
    refine (check_any d hd _).mono ?_; rintro e w1 ⟨rfl, hb1⟩
    go_wp2_with fail
    go_loopg [18] 8 (fun g i wr => ∃ k : Nat, k ≤ 8 ∧ g = 8 - k ∧ i = .int .i64 k ∧ Hid (mendA d c = bitsC d c k (bitsD d c 0 (0, 0, 0, 7))) ∧ Below w.heap.size w wr)
    case atStart => exact ⟨0, by omega, rfl, rfl, HM, hb1⟩
    case round =>
      obtain ⟨k, hk, rfl, rfl, HM, hB⟩ := hrel
      by_cases hlt : k < 8
      · have hp : 2 ^ k ≤ 128 := Nat.le_trans (Nat.pow_le_pow_right (by omega) (show k ≤ 7 by omega)) (by decide)
        have e1p := shl_small k hlt
        have e2 := u8_xor_nat c (2 ^ k) hc (by omega)
        have hxl : c ^^^ 2 ^ k < 256 := Nat.xor_lt_two_pow (n := 8) hc (by omega)
        have cK := Lib.hid (fun W => check_any d hd W)
        by_cases hh : checkN d = c ^^^ 2 ^ k
        · have HE : Hid (mendA d c = (d, c ^^^ 2 ^ k, 1, 0)) := Lib.hid (HM.out.trans (bitsC_hit hlt hh))
          rw [hh] at cK
          generalize c ^^^ 2 ^ k = x at e2 hxl HE cK
          generalize 2 ^ k = p at e1p e2 hp
          clear hh HM
          go_wp2_with fail
          refine (cK.out _).mono ?_; rintro e w2 ⟨rfl, hb2⟩
          go_wp2
          refine bodyPost_ret (v := mval (d, x, 1, 0)) (by simp [results, Tryz.results7, mval]) rfl ?_
          exact Ret.mk (mval_eq HE.out.symm) (hB.trans (hb2.mono hB.size))
        · have HN := Lib.hid (HM.out.trans (bitsC_miss hlt hh))
          have ht : ((checkN d : Int) == ((c ^^^ 2 ^ k : Nat) : Int)) = false := by simp; omega
          generalize c ^^^ 2 ^ k = x at e2 hxl ht
          generalize 2 ^ k = p at e1p e2 hp
          clear hh HM
          go_wp2_with fail
          refine (cK.out _).mono ?_; rintro e w2 ⟨rfl, hb2⟩
          go_wp2
          go_roundg (8 - (k + 1))
          case measure => omega
          case rel => exact ⟨k + 1, by omega, rfl, by go_num, HN, hB.trans (hb2.mono hB.size)⟩
      · obtain rfl : k = 8 := by omega
        have HM := Lib.hid (HM.out.trans bitsC_end)
        clear hlt hk
        obtain ⟨wo, rfl⟩ : ∃ wo : World, wo = wr := ⟨_, rfl⟩
        go_wp2
        go_loopg [32] 64 (fun g i wr => ∃ k : Nat, k ≤ 64 ∧ g = 64 - k ∧ i = .int .i64 k ∧ Hid (mendA d c = bitsD d c k (0, 0, 0, 7)) ∧ Below w.heap.size w wr)
        case atStart => exact ⟨0, by omega, rfl, rfl, HM, hB⟩
        case round =>
          obtain ⟨k, hk, rfl, rfl, HM, hB⟩ := hrel
          by_cases hlt : k < 64
          · have hp : 2 ^ k < 18446744073709551616 := Nat.lt_of_lt_of_le (Nat.pow_lt_pow_right (by omega) hlt) (by decide)
            have e1p := shl_big k hlt
            have e2 := u64_xor_nat d (2 ^ k) hd hp
            have hxl : d ^^^ 2 ^ k < 18446744073709551616 := Nat.xor_lt_two_pow (n := 64) hd hp
            have cK := Lib.hid (fun W => check_any (d ^^^ 2 ^ k) hxl W)
            by_cases hh : checkN (d ^^^ 2 ^ k) = c
            · have HE : Hid (mendA d c = (d ^^^ 2 ^ k, c, 1, 0)) := Lib.hid (HM.out.trans (bitsD_hit hlt hh))
              rw [hh] at cK
              generalize d ^^^ 2 ^ k = x at e2 hxl HE cK
              generalize 2 ^ k = p at e1p e2 hp
              clear hh HM
              go_wp2_with fail
              refine (cK.out _).mono ?_; rintro e w2 ⟨rfl, hb2⟩
              go_wp2
              refine bodyPost_ret (v := mval (x, c, 1, 0)) (by simp [results, Tryz.results7, mval]) rfl ?_
              exact Ret.mk (mval_eq HE.out.symm) (hB.trans (hb2.mono hB.size))
            · have HN := Lib.hid (HM.out.trans (bitsD_miss hlt hh))
              have ht : ((checkN (d ^^^ 2 ^ k) : Int) == (c : Int)) = false := by simp; omega
              generalize checkN (d ^^^ 2 ^ k) = y at cK ht
              generalize d ^^^ 2 ^ k = x at e2 hxl cK
              generalize 2 ^ k = p at e1p e2 hp
              clear hh HM
              go_wp2_with fail
              refine (cK.out _).mono ?_; rintro e w2 ⟨rfl, hb2⟩
              go_wp2
              go_roundg (64 - (k + 1))
              case measure => omega
              case rel => exact ⟨k + 1, by omega, rfl, by go_num, HN, hB.trans (hb2.mono hB.size)⟩
          · obtain rfl : k = 64 := by omega
            have HE := Lib.hid (HM.out.trans bitsD_end)
            clear hlt hk
            go_wp2
            refine bodyPost_ret (v := mval (0, 0, 0, 7)) (by simp [results, Tryz.results7, mval]) rfl ?_
            exact Ret.mk (mval_eq HE.out.symm) hB
end Ecc
end Go.Proofs.YtgfldhdmdeeknaaGreatDoor
