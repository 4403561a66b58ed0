/-
  The plain mathematics of the cyclic redundancy check: by shifting a word, and bit by bit.
-/
import Derived.Test.YtljdfkejhgaciabRows
namespace Go.Proofs.Ytljdfkejhgaciab
namespace Crc

def stepS (s : Nat) : Nat := if s / 32768 = 1 then (s * 2 % 65536) ^^^ 4129 else s * 2 % 65536
def stepB (x bit : Nat) : Nat := if x / 32768 ≠ bit then (x * 2 % 65536) ^^^ 4129 else x * 2 % 65536
def iterS : Nat → Nat → Nat
  | 0, s => s
  | k + 1, s => iterS k (stepS s)
/-- the bits of c from k - 1 down -/
def iterB (c : Nat) : Nat → Nat → Nat
  | 0, x => x
  | k + 1, x => iterB c k (stepB x (c / 2 ^ k % 2))
def byteS (s c : Nat) : Nat := iterS 8 (s ^^^ (c * 256))
def byteB (x c : Nat) : Nat := iterB c 8 x
def sumS (s : Nat) : List Nat → Nat
  | [] => s
  | c :: t => sumS (byteS s c) t
def sumB (s : Nat) : List Nat → Nat
  | [] => s
  | c :: t => sumB (byteB s c) t

theorem xor_lt {a b : Nat} (ha : a < 65536) (hb : b < 65536) : a ^^^ b < 65536 := Nat.xor_lt_two_pow (n := 16) ha hb
theorem stepS_lt (s : Nat) : stepS s < 65536 := by
  unfold stepS
  split
  · exact xor_lt (Nat.mod_lt _ (by omega)) (by omega)
  · exact Nat.mod_lt _ (by omega)
theorem stepB_lt (s b : Nat) : stepB s b < 65536 := by
  unfold stepB
  split
  · exact xor_lt (Nat.mod_lt _ (by omega)) (by omega)
  · exact Nat.mod_lt _ (by omega)
theorem iterS_lt : ∀ (k s : Nat), s < 65536 → iterS k s < 65536
  | 0, _, h => h
  | k + 1, s, _ => iterS_lt k _ (stepS_lt s)
theorem iterB_lt (c : Nat) : ∀ (k s : Nat), s < 65536 → iterB c k s < 65536
  | 0, _, h => h
  | k + 1, s, _ => iterB_lt c k _ (stepB_lt s _)
theorem byteS_lt {s c : Nat} (hs : s < 65536) (hc : c < 256) : byteS s c < 65536 := iterS_lt _ _ (xor_lt hs (by omega))
theorem byteB_lt {s c : Nat} (hs : s < 65536) : byteB s c < 65536 := iterB_lt _ _ _ hs

theorem step_xor {a t : Nat} (ha : a < 65536) (ht : t < 65536) : stepS (a ^^^ t) = stepB a (t / 32768) ^^^ (t * 2 % 65536) := by
  have e1 : (a ^^^ t) / 32768 = (a / 32768) ^^^ (t / 32768) := by
    have := @Nat.shiftRight_xor_distrib 15 a t
    simpa [Nat.shiftRight_eq_div_pow] using this
  have e2 : (a ^^^ t) * 2 % 65536 = (a * 2 % 65536) ^^^ (t * 2 % 65536) := by
    have h1 := @Nat.shiftLeft_xor_distrib 1 a t
    have h2 := Nat.xor_mod_two_pow (a := a * 2) (b := t * 2) (n := 16)
    simp only [Nat.shiftLeft_eq, Nat.pow_one] at h1
    rw [h1]
    exact h2
  unfold stepS stepB
  rw [e1, e2]
  have a1 : a / 32768 < 2 := by omega
  have t1 : t / 32768 < 2 := by omega
  have ha' : a / 32768 = 0 ∨ a / 32768 = 1 := by omega
  have ht' : t / 32768 = 0 ∨ t / 32768 = 1 := by omega
  rcases ha' with h | h <;> rcases ht' with h' | h' <;> simp [h, h', Nat.xor_assoc, Nat.xor_comm 4129]

theorem top_bit {c k : Nat} (hk : k < 8) (hc : c < 256) : (c * 2 ^ (15 - k) % 65536) / 32768 = c / 2 ^ k % 2 := by
  match k, hk with
  | 0, _ => simp; omega
  | 1, _ => simp; omega
  | 2, _ => simp; omega
  | 3, _ => simp; omega
  | 4, _ => simp; omega
  | 5, _ => simp; omega
  | 6, _ => simp; omega
  | 7, _ => simp; omega

theorem iter_eq {c : Nat} (hc : c < 256) : ∀ (k a : Nat), k ≤ 8 → a < 65536 → iterS k (a ^^^ (c * 2 ^ (16 - k) % 65536)) = iterB c k a
  | 0, a, _, _ => by
    have : c * 2 ^ (16 - 0) % 65536 = 0 := Nat.mod_eq_zero_of_dvd ⟨c, by simp [Nat.mul_comm]⟩
    rw [this]
    simp [iterS, iterB]
  | k + 1, a, hk, ha => by
    rw [iterS, iterB, step_xor ha (Nat.mod_lt _ (by omega)), show 16 - (k + 1) = 15 - k by omega, top_bit (by omega) hc]
    have e : c * 2 ^ (15 - k) % 65536 * 2 % 65536 = c * 2 ^ (16 - k) % 65536 := by
      rw [Nat.mod_mul_mod, Nat.mul_assoc, ← Nat.pow_succ, show (15 - k).succ = 16 - k by omega]
    rw [e]
    exact iter_eq hc k _ (by omega) (stepB_lt _ _)

theorem byte_eq {s c : Nat} (hs : s < 65536) (hc : c < 256) : byteS s c = byteB s c := by
  have := iter_eq hc 8 s (Nat.le_refl _) hs
  rw [show c * 2 ^ (16 - 8) % 65536 = c * 256 by simp; omega] at this
  exact this

theorem sum_eq : ∀ (l : List Nat) (s : Nat), s < 65536 → (∀ c ∈ l, c < 256) → sumS s l = sumB s l
  | [], _, _, _ => rfl
  | c :: t, s, hs, hl => by
    rw [sumS, sumB, byte_eq hs (hl c (by simp))]
    exact sum_eq t _ (byteB_lt hs) (fun x hx => hl x (by simp [hx]))
theorem sumB_lt : ∀ (l : List Nat) (s : Nat), s < 65536 → sumB s l < 65536
  | [], _, h => h
  | _ :: t, _, h => sumB_lt t _ (byteB_lt h)
end Crc
end Go.Proofs.Ytljdfkejhgaciab
