/-
  The plain mathematics of the check bits: what one bit turns, that no two remedies meet, and the count of one bits in parallel.
-/
import Derived.Test.YtljdfkejhgaciabRows
namespace Go.Proofs.Ytljdfkejhgaciab
namespace Ecc

def posL : List Nat := [3, 5, 6, 7, 9, 10, 11, 12, 13, 14, 15, 17, 18, 19, 20, 21, 22, 23, 24, 25, 26, 27, 28, 29, 30, 31, 33, 34, 35, 36, 37, 38, 39, 40, 41, 42, 43, 44, 45, 46, 47, 48, 49, 50, 51, 52, 53, 54, 55, 56, 57, 58, 59, 60, 61, 62, 63, 65, 66, 67, 68, 69, 70, 71]
def pos (i : Nat) : Nat := posL.getD i 0
theorem pos_lt : ∀ i, pos i < 128 := by
  intro i
  by_cases h : i < 64
  · have : ∀ i : Fin 64, pos i.val < 128 := by decide +kernel
    exact this ⟨i, h⟩
  · have : pos i = 0 := by
      unfold pos
      rw [List.getD_eq_getElem?_getD, List.getElem?_eq_none (by simp [posL]; omega)]
      rfl
    omega

/-- the xor of the places of the set bits below n -/
def xorN : Nat → Nat → Nat
  | 0, _ => 0
  | n + 1, d => if d / 2 ^ n % 2 = 1 then xorN n d ^^^ pos n else xorN n d
def onesN : Nat → Nat → Nat
  | 0, _ => 0
  | n + 1, d => onesN n d + d / 2 ^ n % 2
def pop8 (x : Nat) : Nat := x % 2 + x / 2 % 2 + x / 4 % 2 + x / 8 % 2 + x / 16 % 2 + x / 32 % 2 + x / 64 % 2 + x / 128 % 2
def checkN (d : Nat) : Nat := xorN 64 d + 128 * ((onesN 64 d + pop8 (xorN 64 d)) % 2)

theorem xor_lt128 {a b : Nat} (ha : a < 128) (hb : b < 128) : a ^^^ b < 128 := Nat.xor_lt_two_pow (n := 7) ha hb
theorem xorN_lt (d : Nat) : ∀ n, xorN n d < 128
  | 0 => by simp [xorN]
  | n + 1 => by
    rw [xorN]
    split
    · exact xor_lt128 (xorN_lt d n) (pos_lt n)
    · exact xorN_lt d n
theorem checkN_lt (d : Nat) : checkN d < 256 := by
  have := xorN_lt d 64
  unfold checkN
  omega

/-- what one bit turns -/
def quo (i : Nat) : Nat := pos i + 128 * ((1 + pop8 (pos i)) % 2)
def quoN : Nat → Nat → Nat
  | 0, _ => 0
  | n + 1, d => if d / 2 ^ n % 2 = 1 then quoN n d ^^^ quo n else quoN n d

theorem xor_hi (a b s t : Nat) (ha : a < 128) (hb : b < 128) (hs : s < 2) (ht : t < 2) : (a + 128 * s) ^^^ (b + 128 * t) = (a ^^^ b) + 128 * ((s + t) % 2) := by
  have h1 : a + 128 * s = 2 ^ 7 * s + a := by omega
  have h2 : b + 128 * t = 2 ^ 7 * t + b := by omega
  have h3 : (a ^^^ b) + 128 * ((s + t) % 2) = 2 ^ 7 * ((s + t) % 2) + (a ^^^ b) := by omega
  rw [h1, h2, h3]
  apply Nat.eq_of_testBit_eq
  intro i
  rw [Nat.testBit_xor, Nat.testBit_two_pow_mul_add s ha, Nat.testBit_two_pow_mul_add t hb, Nat.testBit_two_pow_mul_add _ (xor_lt128 ha hb)]
  by_cases hi : i < 7
  · simp [hi, Nat.testBit_xor]
  · simp only [hi, if_false]
    have hs' : s = 0 ∨ s = 1 := by omega
    have ht' : t = 0 ∨ t = 1 := by omega
    rcases hs' with rfl | rfl <;> rcases ht' with rfl | rfl <;> simp

theorem pop_xor (a b : Nat) : pop8 (a ^^^ b) % 2 = (pop8 a + pop8 b) % 2 := by
  have key : ∀ x y : Nat, ∀ k : Nat, (x ^^^ y) / 2 ^ k % 2 = (x / 2 ^ k % 2 + y / 2 ^ k % 2) % 2 := by
    intro x y k
    have h1 := Nat.testBit_xor x y k
    simp only [Nat.testBit_eq_decide_div_mod_eq] at h1
    have hx : x / 2 ^ k % 2 = 0 ∨ x / 2 ^ k % 2 = 1 := by omega
    have hy : y / 2 ^ k % 2 = 0 ∨ y / 2 ^ k % 2 = 1 := by omega
    have hz : (x ^^^ y) / 2 ^ k % 2 = 0 ∨ (x ^^^ y) / 2 ^ k % 2 = 1 := by omega
    rcases hx with hx | hx <;> rcases hy with hy | hy <;> rcases hz with hz | hz <;> simp [hx, hy, hz] at h1 ⊢
  have k0 := key a b 0
  have k1 := key a b 1
  have k2 := key a b 2
  have k3 := key a b 3
  have k4 := key a b 4
  have k5 := key a b 5
  have k6 := key a b 6
  have k7 := key a b 7
  simp only [Nat.reducePow, Nat.div_one] at k0 k1 k2 k3 k4 k5 k6 k7
  unfold pop8
  rw [k0, k1, k2, k3, k4, k5, k6, k7]
  clear k0 k1 k2 k3 k4 k5 k6 k7 key
  generalize a % 2 = a0, a / 2 % 2 = a1, a / 4 % 2 = a2, a / 8 % 2 = a3, a / 16 % 2 = a4, a / 32 % 2 = a5, a / 64 % 2 = a6, a / 128 % 2 = a7
  generalize b % 2 = b0, b / 2 % 2 = b1, b / 4 % 2 = b2, b / 8 % 2 = b3, b / 16 % 2 = b4, b / 32 % 2 = b5, b / 64 % 2 = b6, b / 128 % 2 = b7
  have h2 : ∀ x y z : Nat, ((x + y) % 2 + z) % 2 = (x + y + z) % 2 := fun x y z => by omega
  simp only [Nat.add_mod, Nat.mod_mod]
  simp only [Nat.mod_mod, ← Nat.add_mod]
  congr 1
  omega

theorem quoN_eq (d : Nat) : ∀ n, quoN n d = xorN n d + 128 * ((onesN n d + pop8 (xorN n d)) % 2)
  | 0 => by simp [quoN, xorN, onesN, pop8]
  | n + 1 => by
    rw [quoN, xorN, onesN, quoN_eq d n]
    by_cases h : d / 2 ^ n % 2 = 1
    · rw [if_pos h, if_pos h, quo, xor_hi _ _ _ _ (xorN_lt d n) (pos_lt n) (by omega) (by omega)]
      have := pop_xor (xorN n d) (pos n)
      rw [h]
      omega
    · rw [if_neg h, if_neg h, show d / 2 ^ n % 2 = 0 by omega]
      rfl
theorem checkN_quo (d : Nat) : checkN d = quoN 64 d := (quoN_eq d 64).symm

theorem bit_flip (d k n : Nat) : (d ^^^ 2 ^ k) / 2 ^ n % 2 = if k = n then 1 - d / 2 ^ n % 2 else d / 2 ^ n % 2 := by
  have h1 := Nat.testBit_xor d (2 ^ k) n
  rw [Nat.testBit_two_pow] at h1
  simp only [Nat.testBit_eq_decide_div_mod_eq] at h1
  have hd : d / 2 ^ n % 2 = 0 ∨ d / 2 ^ n % 2 = 1 := by omega
  have hz : (d ^^^ 2 ^ k) / 2 ^ n % 2 = 0 ∨ (d ^^^ 2 ^ k) / 2 ^ n % 2 = 1 := by omega
  by_cases hk : k = n
  · subst hk
    rcases hd with hd | hd <;> rcases hz with hz | hz <;> simp [hd, hz] at h1 ⊢
  · rcases hd with hd | hd <;> rcases hz with hz | hz <;> simp [hd, hz, hk] at h1 ⊢

theorem quoN_flip (d k : Nat) : ∀ n, quoN n (d ^^^ 2 ^ k) = if k < n then quoN n d ^^^ quo k else quoN n d
  | 0 => by simp [quoN]
  | n + 1 => by
    rw [quoN, quoN, quoN_flip d k n, bit_flip]
    by_cases hk : k = n
    · subst hk
      have hd : d / 2 ^ k % 2 = 0 ∨ d / 2 ^ k % 2 = 1 := by omega
      rcases hd with hd | hd <;> simp [hd, Nat.xor_assoc]
    · by_cases hlt : k < n
      · have : k < n + 1 := by omega
        simp only [hk, hlt, this, if_false, if_true]
        split
        · rw [Nat.xor_assoc, Nat.xor_assoc, Nat.xor_comm (quo k)]
        · rfl
      · have : ¬ k < n + 1 := by omega
        simp only [hk, hlt, this, if_false]
theorem checkN_flip (d k : Nat) (hk : k < 64) : checkN (d ^^^ 2 ^ k) = checkN d ^^^ quo k := by rw [checkN_quo, checkN_quo, quoN_flip, if_pos hk]
theorem quo_ne (k i : Nat) (hk : k < 64) (hi : i < 8) : quo k ≠ 2 ^ i := by
  have : ∀ k : Fin 64, ∀ i : Fin 8, quo k.val ≠ 2 ^ i.val := by decide +kernel
  exact this ⟨k, hk⟩ ⟨i, hi⟩
theorem not_both (d c k i : Nat) (hk : k < 64) (hi : i < 8) (h1 : checkN d = c ^^^ 2 ^ i) (h2 : checkN (d ^^^ 2 ^ k) = c) : False := by
  rw [checkN_flip d k hk, h1] at h2
  apply quo_ne k i hk hi
  have : (c ^^^ 2 ^ i ^^^ quo k) ^^^ c = 0 := by rw [h2, Nat.xor_self]
  have h3 : 2 ^ i ^^^ quo k = 0 := by
    rw [← this, Nat.xor_assoc c, Nat.xor_comm c, Nat.xor_assoc, Nat.xor_self, Nat.xor_zero]
  have h4 : (2 ^ i ^^^ quo k) ^^^ 2 ^ i = 2 ^ i := by rw [h3, Nat.zero_xor]
  rw [Nat.xor_comm (2 ^ i), Nat.xor_assoc, Nat.xor_self, Nat.xor_zero] at h4
  exact h4

/-- the first i in [k, n) that satisfies p -/
def firstN (p : Nat → Bool) : Nat → Nat → Option Nat
  | 0, _ => none
  | f + 1, k => if p k then some k else firstN p f (k + 1)
theorem firstN_some {p : Nat → Bool} : ∀ (f k i : Nat), firstN p f k = some i → p i = true ∧ k ≤ i ∧ i < k + f
  | 0, k, i, h => by cases h
  | f + 1, k, i, h => by
    rw [firstN] at h
    split at h
    · rename_i hp
      injection h with h
      subst h
      exact ⟨hp, by omega, by omega⟩
    · have := firstN_some f (k + 1) i h
      exact ⟨this.1, by omega, by omega⟩

def mendA (d c : Nat) : Nat × Nat × Nat × Nat :=
  if checkN d = c then (d, c, 0, 0) else
  match firstN (fun i => checkN d == c ^^^ 2 ^ i) 8 0 with
  | some i => (d, c ^^^ 2 ^ i, 1, 0)
  | none => match firstN (fun i => checkN (d ^^^ 2 ^ i) == c) 64 0 with
    | some i => (d ^^^ 2 ^ i, c, 1, 0)
    | none => (0, 0, 0, 7)
def mendB (d c : Nat) : Nat × Nat × Nat × Nat :=
  if checkN d = c then (d, c, 0, 0) else
  match firstN (fun i => checkN (d ^^^ 2 ^ i) == c) 64 0 with
  | some i => (d ^^^ 2 ^ i, c, 1, 0)
  | none => match firstN (fun i => checkN d == c ^^^ 2 ^ i) 8 0 with
    | some i => (d, c ^^^ 2 ^ i, 1, 0)
    | none => (0, 0, 0, 7)
theorem mend_eq (d c : Nat) : mendA d c = mendB d c := by
  unfold mendA mendB
  split
  · rfl
  · cases h1 : firstN (fun i => checkN d == c ^^^ 2 ^ i) 8 0 with
    | none => rfl
    | some i =>
      cases h2 : firstN (fun i => checkN (d ^^^ 2 ^ i) == c) 64 0 with
      | none => rfl
      | some k =>
        have a := firstN_some _ _ _ h1
        have b := firstN_some _ _ _ h2
        exact absurd (not_both d c k i (by omega) (by omega) (by simpa using a.1) (by simpa using b.1)) id

/-! ### the number of one bits, in parallel -/
def val : List Nat → Nat
  | [] => 0
  | b :: l => b + 256 * val l
theorem and_split (b r m R : Nat) (hb : b < 256) (hm : m < 256) : (b + 256 * r) &&& (m + 256 * R) = (b &&& m) + 256 * (r &&& R) := by
  have h1 : b + 256 * r = 2 ^ 8 * r + b := by omega
  have h2 : m + 256 * R = 2 ^ 8 * R + m := by omega
  have h4 : b &&& m < 2 ^ 8 := Nat.and_lt_two_pow b hm
  have h3 : (b &&& m) + 256 * (r &&& R) = 2 ^ 8 * (r &&& R) + (b &&& m) := by omega
  rw [h1, h2, h3]
  apply Nat.eq_of_testBit_eq
  intro i
  rw [Nat.testBit_and, Nat.testBit_two_pow_mul_add r hb, Nat.testBit_two_pow_mul_add R hm, Nat.testBit_two_pow_mul_add _ h4]
  by_cases hi : i < 8
  · simp [hi]
  · simp [hi]
def maskN (m : Nat) (n : Nat) : Nat := val (List.replicate n m)
theorem maskN_succ (m n : Nat) : maskN m (n + 1) = m + 256 * maskN m n := rfl
def s1 (b : Nat) : Nat := (b / 2 &&& 85) + (b &&& 85)
def s2 (b : Nat) : Nat := (b / 4 &&& 51) + (b &&& 51)
def s3 (b : Nat) : Nat := b / 16 + b % 16
def nib (b : Nat) : Prop := b / 16 ≤ 4 ∧ b % 16 ≤ 4
theorem low1 : ∀ b : Fin 256, ∀ t : Fin 2, (b.val / 2 + 128 * t.val) &&& 85 = b.val / 2 &&& 85 := by decide +kernel
theorem low2 : ∀ b : Fin 256, ∀ t : Fin 4, (b.val / 4 + 64 * t.val) &&& 51 = b.val / 4 &&& 51 := by decide +kernel
theorem low3 : ∀ b : Fin 256, ∀ t : Fin 5, b.val / 16 ≤ 4 → b.val % 16 ≤ 4 → b.val / 16 + 16 * t.val + b.val < 256 ∧ (b.val / 16 + 16 * t.val + b.val) &&& 15 = b.val / 16 + b.val % 16 := by decide +kernel
theorem s1_lt : ∀ b : Fin 256, s1 b.val < 256 := by decide +kernel
theorem s12_nib : ∀ b : Fin 256, s2 (s1 b.val) / 16 ≤ 4 ∧ s2 (s1 b.val) % 16 ≤ 4 ∧ s2 (s1 b.val) < 256 := by decide +kernel
theorem s123 : ∀ b : Fin 256, s3 (s2 (s1 b.val)) = pop8 b.val := by decide +kernel
theorem pop8_le (b : Nat) : pop8 b ≤ 8 := by unfold pop8; omega

theorem step1 : ∀ l : List Nat, (∀ b ∈ l, b < 256) → (val l / 2 &&& maskN 85 l.length) + (val l &&& maskN 85 l.length) = val (l.map s1)
  | [], _ => by simp [val, maskN]
  | b :: l, h => by
    have hb : b < 256 := h b (by simp)
    have ih := step1 l (fun x hx => h x (by simp [hx]))
    rw [List.length_cons, maskN_succ, val, show (b + 256 * val l) / 2 = (b / 2 + 128 * (val l % 2)) + 256 * (val l / 2) by omega,
      and_split _ _ _ _ (by omega) (by omega), and_split _ _ _ _ hb (by omega), List.map_cons, val, ← ih, s1]
    have := low1 ⟨b, hb⟩ ⟨val l % 2, by omega⟩
    simp only at this
    rw [this]
    generalize (b / 2 &&& 85) = p
    generalize (b &&& 85) = q
    generalize (val l / 2 &&& maskN 85 l.length) = r
    generalize (val l &&& maskN 85 l.length) = s
    omega
theorem step2 : ∀ l : List Nat, (∀ b ∈ l, b < 256) → (val l / 4 &&& maskN 51 l.length) + (val l &&& maskN 51 l.length) = val (l.map s2)
  | [], _ => by simp [val, maskN]
  | b :: l, h => by
    have hb : b < 256 := h b (by simp)
    have ih := step2 l (fun x hx => h x (by simp [hx]))
    rw [List.length_cons, maskN_succ, val, show (b + 256 * val l) / 4 = (b / 4 + 64 * (val l % 4)) + 256 * (val l / 4) by omega,
      and_split _ _ _ _ (by omega) (by omega), and_split _ _ _ _ hb (by omega), List.map_cons, val, ← ih, s2]
    have := low2 ⟨b, hb⟩ ⟨val l % 4, by omega⟩
    simp only at this
    rw [this]
    generalize (b / 4 &&& 51) = p
    generalize (b &&& 51) = q
    generalize (val l / 4 &&& maskN 51 l.length) = r
    generalize (val l &&& maskN 51 l.length) = s
    omega
theorem step3 : ∀ l : List Nat, (∀ b ∈ l, b < 256 ∧ nib b) → (val l / 16 + val l) &&& maskN 15 l.length = val (l.map s3)
  | [], _ => by simp [val, maskN]
  | b :: l, h => by
    obtain ⟨hb, hn1, hn2⟩ := h b (by simp)
    have ih := step3 l (fun x hx => h x (by simp [hx]))
    have ht : val l % 16 ≤ 4 := by
      cases l with
      | nil => simp [val]
      | cons c l =>
        obtain ⟨hc, hc1, hc2⟩ := h c (by simp)
        rw [val]
        omega
    have := low3 ⟨b, hb⟩ ⟨val l % 16, by omega⟩ hn1 hn2
    simp only at this
    rw [List.length_cons, maskN_succ, val, show (b + 256 * val l) / 16 + (b + 256 * val l) = (b / 16 + 16 * (val l % 16) + b) + 256 * (val l / 16 + val l) by omega,
      and_split _ _ _ _ this.1 (by omega), this.2, ih, List.map_cons, val, s3]

def bytes8 (d : Nat) : List Nat := [d % 256, d / 256 % 256, d / 65536 % 256, d / 16777216 % 256, d / 4294967296 % 256, d / 1099511627776 % 256, d / 281474976710656 % 256, d / 72057594037927936 % 256]
theorem bytes8_val (d : Nat) (h : d < 18446744073709551616) : val (bytes8 d) = d := by
  simp only [bytes8, val]
  omega
theorem bytes8_lt (d : Nat) : ∀ b ∈ bytes8 d, b < 256 := by
  intro b hb
  simp only [bytes8, List.mem_cons, List.not_mem_nil, or_false] at hb
  rcases hb with rfl | rfl | rfl | rfl | rfl | rfl | rfl | rfl <;> exact Nat.mod_lt _ (by decide)

def swar1 (x : Nat) : Nat := (x / 2 &&& 6148914691236517205) + (x &&& 6148914691236517205)
def swar2 (x : Nat) : Nat := (x / 4 &&& 3689348814741910323) + (x &&& 3689348814741910323)
def swar3 (x : Nat) : Nat := (x / 16 + x) &&& 1085102592571150095
theorem swar1_lt (x : Nat) : swar1 x ≤ 12297829382473034410 := by
  have := Nat.and_le_right (n := x / 2) (m := 6148914691236517205)
  have := Nat.and_le_right (n := x) (m := 6148914691236517205)
  unfold swar1
  omega
theorem swar2_lt (x : Nat) : swar2 x ≤ 7378697629483820646 := by
  have := Nat.and_le_right (n := x / 4) (m := 3689348814741910323)
  have := Nat.and_le_right (n := x) (m := 3689348814741910323)
  unfold swar2
  omega
theorem swar3_lt (x : Nat) : swar3 x ≤ 1085102592571150095 := Nat.and_le_right
theorem mask85 : maskN 85 8 = 6148914691236517205 := by decide
theorem mask51 : maskN 51 8 = 3689348814741910323 := by decide
theorem mask15 : maskN 15 8 = 1085102592571150095 := by decide
theorem bytes8_len (d : Nat) : (bytes8 d).length = 8 := rfl
theorem swar_val (d : Nat) (h : d < 18446744073709551616) : swar3 (swar2 (swar1 d)) = val ((bytes8 d).map pop8) := by
  have e1 : swar1 d = val ((bytes8 d).map s1) := by
    have := step1 (bytes8 d) (bytes8_lt d)
    rw [bytes8_val d h, bytes8_len, mask85] at this
    unfold swar1
    exact this
  have e2 : swar2 (swar1 d) = val (((bytes8 d).map s1).map s2) := by
    rw [e1]
    have := step2 ((bytes8 d).map s1) (by
      intro b hb
      obtain ⟨c, hc, rfl⟩ := List.mem_map.1 hb
      exact s1_lt ⟨c, bytes8_lt d c hc⟩)
    rw [List.length_map, bytes8_len, mask51] at this
    unfold swar2
    exact this
  have e3 : swar3 (swar2 (swar1 d)) = val ((((bytes8 d).map s1).map s2).map s3) := by
    rw [e2]
    have := step3 (((bytes8 d).map s1).map s2) (by
      intro b hb
      obtain ⟨c, hc, rfl⟩ := List.mem_map.1 hb
      obtain ⟨a, ha, rfl⟩ := List.mem_map.1 hc
      have := s12_nib ⟨a, bytes8_lt d a ha⟩
      exact ⟨this.2.2, this.1, this.2.1⟩)
    rw [List.length_map, List.length_map, bytes8_len, mask15] at this
    unfold swar3
    exact this
  rw [e3, List.map_map, List.map_map]
  congr 1
  exact List.map_congr_left fun b hb => s123 ⟨b, bytes8_lt d b hb⟩
def swarE (x : Nat) : Nat := let a := x + x / 256; let b := a + a / 65536; (b + b / 4294967296) % 128
theorem swarE_val (u0 u1 u2 u3 u4 u5 u6 u7 : Nat) (h0 : u0 ≤ 8) (h1 : u1 ≤ 8) (h2 : u2 ≤ 8) (h3 : u3 ≤ 8) (h4 : u4 ≤ 8) (h5 : u5 ≤ 8) (h6 : u6 ≤ 8) (h7 : u7 ≤ 8) :
    swarE (val [u0, u1, u2, u3, u4, u5, u6, u7]) = u0 + u1 + u2 + u3 + u4 + u5 + u6 + u7 := by
  have d1 : val [u0, u1, u2, u3, u4, u5, u6, u7] / 256 = val [u1, u2, u3, u4, u5, u6, u7] := by simp only [val]; omega
  have a1 : val [u0, u1, u2, u3, u4, u5, u6, u7] + val [u1, u2, u3, u4, u5, u6, u7] = val [u0 + u1, u1 + u2, u2 + u3, u3 + u4, u4 + u5, u5 + u6, u6 + u7, u7] := by simp only [val]; omega
  have d2 : val [u0 + u1, u1 + u2, u2 + u3, u3 + u4, u4 + u5, u5 + u6, u6 + u7, u7] / 65536 = val [u2 + u3, u3 + u4, u4 + u5, u5 + u6, u6 + u7, u7] := by simp only [val]; omega
  have a2 : val [u0 + u1, u1 + u2, u2 + u3, u3 + u4, u4 + u5, u5 + u6, u6 + u7, u7] + val [u2 + u3, u3 + u4, u4 + u5, u5 + u6, u6 + u7, u7] =
      val [u0 + u1 + u2 + u3, u1 + u2 + u3 + u4, u2 + u3 + u4 + u5, u3 + u4 + u5 + u6, u4 + u5 + u6 + u7, u5 + u6 + u7, u6 + u7, u7] := by simp only [val]; omega
  have d3 : val [u0 + u1 + u2 + u3, u1 + u2 + u3 + u4, u2 + u3 + u4 + u5, u3 + u4 + u5 + u6, u4 + u5 + u6 + u7, u5 + u6 + u7, u6 + u7, u7] / 4294967296 = val [u4 + u5 + u6 + u7, u5 + u6 + u7, u6 + u7, u7] := by simp only [val]; omega
  unfold swarE
  simp only
  rw [d1, a1, d2, a2, d3]
  simp only [val]
  omega
theorem byte_bit (d j t : Nat) (ht : t < 8) : d / 2 ^ (8 * j) % 256 / 2 ^ t % 2 = d / 2 ^ (8 * j + t) % 2 := by
  have h := Nat.testBit_mod_two_pow (d / 2 ^ (8 * j)) 8 t
  rw [Nat.testBit_div_two_pow] at h
  simp only [ht, decide_true, Bool.true_and, Nat.testBit_eq_decide_div_mod_eq] at h
  have h1 : d / 2 ^ (8 * j) % 2 ^ 8 / 2 ^ t % 2 = 0 ∨ d / 2 ^ (8 * j) % 2 ^ 8 / 2 ^ t % 2 = 1 := by omega
  have h2 : d / 2 ^ (t + 8 * j) % 2 = 0 ∨ d / 2 ^ (t + 8 * j) % 2 = 1 := by omega
  rw [show (256 : Nat) = 2 ^ 8 from rfl, Nat.add_comm (8 * j)]
  rcases h1 with h1 | h1 <;> rcases h2 with h2 | h2 <;> simp [h1, h2] at h ⊢
theorem pop8_byte (d j : Nat) : pop8 (d / 2 ^ (8 * j) % 256) = d / 2 ^ (8 * j) % 2 + d / 2 ^ (8 * j + 1) % 2 + d / 2 ^ (8 * j + 2) % 2 + d / 2 ^ (8 * j + 3) % 2 + d / 2 ^ (8 * j + 4) % 2 + d / 2 ^ (8 * j + 5) % 2 + d / 2 ^ (8 * j + 6) % 2 + d / 2 ^ (8 * j + 7) % 2 := by
  have k0 := byte_bit d j 0 (by omega)
  have k1 := byte_bit d j 1 (by omega)
  have k2 := byte_bit d j 2 (by omega)
  have k3 := byte_bit d j 3 (by omega)
  have k4 := byte_bit d j 4 (by omega)
  have k5 := byte_bit d j 5 (by omega)
  have k6 := byte_bit d j 6 (by omega)
  have k7 := byte_bit d j 7 (by omega)
  generalize d / 2 ^ (8 * j) % 256 = b at k0 k1 k2 k3 k4 k5 k6 k7 ⊢
  simp only [Nat.reducePow, Nat.div_one, Nat.add_zero] at k0 k1 k2 k3 k4 k5 k6 k7
  unfold pop8
  rw [k0, k1, k2, k3, k4, k5, k6, k7]
theorem ones_8 (d j : Nat) : onesN (8 * j + 8) d = onesN (8 * j) d + pop8 (d / 2 ^ (8 * j) % 256) := by
  rw [pop8_byte]
  simp only [onesN, Nat.add_assoc]
theorem ones_bytes (d : Nat) : onesN 64 d = pop8 (d % 256) + pop8 (d / 256 % 256) + pop8 (d / 65536 % 256) + pop8 (d / 16777216 % 256) + pop8 (d / 4294967296 % 256) + pop8 (d / 1099511627776 % 256) + pop8 (d / 281474976710656 % 256) + pop8 (d / 72057594037927936 % 256) := by
  have j0 := ones_8 d 0
  have j1 := ones_8 d 1
  have j2 := ones_8 d 2
  have j3 := ones_8 d 3
  have j4 := ones_8 d 4
  have j5 := ones_8 d 5
  have j6 := ones_8 d 6
  have j7 := ones_8 d 7
  simp only [Nat.reduceMul, Nat.reduceAdd, Nat.reducePow, Nat.div_one] at j0 j1 j2 j3 j4 j5 j6 j7
  rw [j7, j6, j5, j4, j3, j2, j1, j0, onesN, Nat.zero_add]
theorem swar_all (d : Nat) (h : d < 18446744073709551616) : swarE (swar3 (swar2 (swar1 d))) = onesN 64 d := by
  rw [swar_val d h]
  simp only [bytes8, List.map_cons, List.map_nil]
  rw [swarE_val _ _ _ _ _ _ _ _ (pop8_le _) (pop8_le _) (pop8_le _) (pop8_le _) (pop8_le _) (pop8_le _) (pop8_le _) (pop8_le _), ones_bytes]
theorem ones_le (d : Nat) : ∀ n, onesN n d ≤ n
  | 0 => by simp [onesN]
  | n + 1 => by have := ones_le d n; rw [onesN]; omega
theorem pop8_half (x : Nat) (h : x < 256) : pop8 x = x % 2 + pop8 (x / 2) := by
  have key : ∀ b : Fin 256, pop8 b.val = b.val % 2 + pop8 (b.val / 2) := by decide +kernel
  exact key ⟨x, h⟩
end Ecc
end Go.Proofs.Ytljdfkejhgaciab
