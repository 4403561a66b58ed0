/-
  The plain law of sparse files: bytes by place, the length, the pages that are there; what an operation does. Conditions: none beyond each theorem's own premises.
-/
import Derived.Test.YtfljbiobiobamaaMem
namespace Go.Proofs.Ytfljbiobiobamaa
set_option linter.unusedVariables false
namespace Fl
/-- a sparse file: the byte at each place, its length, the pages that are there -/
structure Sf where
  c : Nat → Nat
  L : Nat
  P : Nat → Bool
structure Sf.Ok (s : Sf) : Prop where
  zero : ∀ i, s.L ≤ i → s.c i = 0
  byte : ∀ i, s.c i < 256
  len : s.L ≤ 4096
  page : ∀ k, s.P k = true → 16 * k < s.L
  held : ∀ i, s.P (i / 16) = false → s.c i = 0
def Sf.new : Sf := ⟨fun _ => 0, 0, fun _ => false⟩
theorem Sf.new_ok : Sf.new.Ok := ⟨fun _ _ => rfl, fun _ => by simp [Sf.new], by simp [Sf.new], fun _ h => by simp [Sf.new] at h, fun _ _ => rfl⟩
/-- one byte stored: the length as it was -/
def upd (c : Nat → Nat) (x v : Nat) : Nat → Nat := fun i => if i = x then v else c i
def padd (P : Nat → Bool) (k : Nat) : Nat → Bool := fun j => P j || decide (j = k)
/-- the first i bytes of ds stored from 'at_' on -/
def cW (c : Nat → Nat) (at_ : Nat) (ds : List Nat) : Nat → Nat → Nat
  | 0 => c
  | i + 1 => upd (cW c at_ ds i) (at_ + i) (ds.getD i 0)
def pW (P : Nat → Bool) (at_ : Nat) : Nat → Nat → Bool
  | 0 => P
  | i + 1 => padd (pW P at_ i) ((at_ + i) / 16)
def Sf.write (s : Sf) (at_ : Nat) (ds : List Nat) : Sf := ⟨cW s.c at_ ds ds.length, if ds = [] then s.L else max s.L (at_ + ds.length), pW s.P at_ ds.length⟩
def Sf.read (s : Sf) (at_ many : Nat) : List Nat := (List.range (min many (s.L - at_))).map fun k => s.c (at_ + k)
def cC (c : Nat → Nat) (n : Nat) : Nat → Nat := fun i => if i < n then c i else 0
def Sf.cut (s : Sf) (n : Nat) : Sf := ⟨cC s.c n, n, fun k => s.P k && decide (16 * k < n)⟩
theorem cW_at {c : Nat → Nat} {at_ : Nat} {ds : List Nat} : ∀ (n : Nat) (i : Nat), cW c at_ ds n i = if at_ ≤ i ∧ i < at_ + n then ds.getD (i - at_) 0 else c i
  | 0, i => by
    rw [if_neg (by omega)]
    rfl
  | n + 1, i => by
    show upd (cW c at_ ds n) (at_ + n) (ds.getD n 0) i = _
    unfold upd
    by_cases h : i = at_ + n
    · subst h
      rw [if_pos rfl, if_pos (by omega), show at_ + n - at_ = n by omega]
    · rw [if_neg h, cW_at n i]
      by_cases h2 : at_ ≤ i ∧ i < at_ + n
      · rw [if_pos h2, if_pos (by omega)]
      · rw [if_neg h2, if_neg (by omega)]
theorem pW_at {P : Nat → Bool} {at_ : Nat} : ∀ (n : Nat) (k : Nat), pW P at_ n k = true ↔ P k = true ∨ ∃ i, i < n ∧ (at_ + i) / 16 = k
  | 0, k => by simp [pW]
  | n + 1, k => by
    show padd (pW P at_ n) ((at_ + n) / 16) k = true ↔ _
    unfold padd
    rw [Bool.or_eq_true, pW_at n k, decide_eq_true_eq]
    constructor
    · rintro ((h | ⟨i, hi, h⟩) | h)
      · exact .inl h
      · exact .inr ⟨i, by omega, h⟩
      · exact .inr ⟨n, by omega, h.symm⟩
    · rintro (h | ⟨i, hi, h⟩)
      · exact .inl (.inl h)
      · by_cases e : i = n
        · subst e
          exact .inr h.symm
        · exact .inl (.inr ⟨i, by omega, h⟩)
theorem Sf.Ok.write {s : Sf} (h : s.Ok) {at_ : Nat} {ds : List Nat} (hl : at_ + ds.length ≤ 4096) (hd : ∀ x ∈ ds, x < 256) : (s.write at_ ds).Ok := by
  by_cases h0 : ds = []
  · subst h0
    have e : s.write at_ [] = s := rfl
    rw [e]
    exact h
  have hpos : 0 < ds.length := List.length_pos_iff.2 h0
  have hL : (s.write at_ ds).L = max s.L (at_ + ds.length) := if_neg h0
  refine ⟨fun i hi => ?_, fun i => ?_, by rw [hL]; have := h.len; omega, fun k hk => ?_, fun i hi => ?_⟩
  · rw [hL] at hi
    show cW s.c at_ ds ds.length i = 0
    rw [cW_at, if_neg (by omega)]
    exact h.zero i (by omega)
  · show cW s.c at_ ds ds.length i < 256
    rw [cW_at]
    split
    · rename_i h1
      rw [List.getD_eq_getElem?_getD, List.getElem?_eq_getElem (by omega)]
      exact hd _ (List.getElem_mem _)
    · exact h.byte i
  · rw [hL]
    rcases (pW_at _ _).1 hk with h1 | ⟨i, hi, rfl⟩
    · have := h.page k h1
      omega
    · omega
  · show cW s.c at_ ds ds.length i = 0
    have hn : ¬ (pW s.P at_ ds.length (i / 16) = true) := by
      change pW s.P at_ ds.length (i / 16) = false at hi
      rw [hi]
      simp
    rw [pW_at] at hn
    rw [cW_at, if_neg (fun h1 => hn (.inr ⟨i - at_, by omega, by rw [show at_ + (i - at_) = i by omega]⟩))]
    refine h.held i ?_
    cases hp : s.P (i / 16) with
    | false => rfl
    | true => exact absurd (.inl hp) hn
theorem Sf.Ok.cut {s : Sf} (h : s.Ok) {n : Nat} (hn : n ≤ 4096) : (s.cut n).Ok := by
  refine ⟨fun i hi => if_neg (by have : n ≤ i := hi; omega), fun i => ?_, hn, fun k hk => ?_, fun i hi => ?_⟩
  · show cC s.c n i < 256
    unfold cC
    split
    · exact h.byte i
    · omega
  · have : (s.P k && decide (16 * k < n)) = true := hk
    rw [Bool.and_eq_true, decide_eq_true_eq] at this
    exact this.2
  · have : (s.P (i / 16) && decide (16 * (i / 16) < n)) = false := hi
    show cC s.c n i = 0
    unfold cC
    split
    · rename_i h1
      rw [decide_eq_true (by omega), Bool.and_true] at this
      exact h.held i this
    · rfl
/-- a page's bytes -/
def pg (c : Nat → Nat) (k : Nat) : List Nat := (List.range 16).map fun j => c (16 * k + j)
theorem pg_len (c : Nat → Nat) (k : Nat) : (pg c k).length = 16 := by simp [pg]
theorem pg_at (c : Nat → Nat) (k j : Nat) (h : j < 16) : (pg c k)[j]? = some (c (16 * k + j)) := by simp [pg, h]
theorem pg_same (c : Nat → Nat) (x v : Nat) : pg (upd c x v) (x / 16) = (pg c (x / 16)).set (x % 16) v := by
  refine List.ext_getElem? fun j => ?_
  rw [List.getElem?_set]
  by_cases h : j < 16
  · rw [pg_at _ _ _ h, pg_at _ _ _ h, pg_len]
    unfold upd
    by_cases e : x % 16 = j
    · rw [if_pos (by omega), if_pos e, if_pos (by omega)]
    · rw [if_neg (by omega), if_neg e]
  · rw [List.getElem?_eq_none (by rw [pg_len]; omega), pg_len]
    rw [if_neg (by omega), List.getElem?_eq_none (by rw [pg_len]; omega)]
theorem pg_other (c : Nat → Nat) (x v k : Nat) (h : k ≠ x / 16) : pg (upd c x v) k = pg c k := by
  refine List.ext_getElem? fun j => ?_
  by_cases hj : j < 16
  · rw [pg_at _ _ _ hj, pg_at _ _ _ hj]
    unfold upd
    rw [if_neg (by omega)]
  · rw [List.getElem?_eq_none (by rw [pg_len]; omega), List.getElem?_eq_none (by rw [pg_len]; omega)]
/-- a page that no store has reached is of zeros -/
theorem pg_new {c : Nat → Nat} {P : Nat → Bool} (h : ∀ i, P (i / 16) = false → c i = 0) {k : Nat} (hk : P k = false) : pg c k = List.replicate 16 0 := by
  refine List.ext_getElem? fun j => ?_
  by_cases hj : j < 16
  · rw [pg_at _ _ _ hj, List.getElem?_replicate, if_pos hj, h _ (by rw [show (16 * k + j) / 16 = k by omega]; exact hk)]
  · rw [List.getElem?_eq_none (by rw [pg_len]; omega), List.getElem?_eq_none (by simp; omega)]
theorem pg_cut_low (c : Nat → Nat) (n k : Nat) (h : k < n / 16) : pg (cC c n) k = pg c k := by
  refine List.ext_getElem? fun j => ?_
  by_cases hj : j < 16
  · rw [pg_at _ _ _ hj, pg_at _ _ _ hj]
    unfold cC
    rw [if_pos (by omega)]
  · rw [List.getElem?_eq_none (by rw [pg_len]; omega), List.getElem?_eq_none (by rw [pg_len]; omega)]
theorem pg_cut_edge (c : Nat → Nat) (n : Nat) : pg (cC c n) (n / 16) = (pg c (n / 16)).take (n % 16) ++ List.replicate (16 - n % 16) 0 := by
  refine List.ext_getElem? fun j => ?_
  by_cases hj : j < 16
  · rw [pg_at _ _ _ hj]
    unfold cC
    by_cases h : j < n % 16
    · rw [if_pos (by omega), List.getElem?_append_left (by rw [List.length_take, pg_len]; omega), List.getElem?_take, if_pos h, pg_at _ _ _ hj]
    · rw [if_neg (by omega), List.getElem?_append_right (by rw [List.length_take, pg_len]; omega), List.getElem?_replicate, List.length_take, pg_len, if_pos (by omega)]
  · rw [List.getElem?_eq_none (by rw [pg_len]; omega), List.getElem?_eq_none (by simp [pg_len]; omega)]
/-- the row of bytes -/
def row (c : Nat → Nat) (L : Nat) : List Nat := (List.range L).map c
theorem row_len (c : Nat → Nat) (L : Nat) : (row c L).length = L := by simp [row]
theorem row_at (c : Nat → Nat) {L j : Nat} (h : j < L) : (row c L)[j]? = some (c j) := by simp [row, h]
theorem row_snoc (c : Nat → Nat) (L : Nat) : row c (L + 1) = row c L ++ [c L] := by simp [row, List.range_succ]
theorem row_set (c : Nat → Nat) (L x v : Nat) : (row c L).set x v = row (upd c x v) L := by
  refine List.ext_getElem? fun j => ?_
  rw [List.getElem?_set]
  by_cases h : j < L
  · rw [row_at _ h, row_at _ h, row_len]
    unfold upd
    by_cases e : x = j
    · rw [if_pos e, if_pos (by omega), if_pos e.symm]
    · rw [if_neg e, if_neg (fun e2 => e e2.symm)]
  · rw [List.getElem?_eq_none (by rw [row_len]; omega), row_len]
    rw [List.getElem?_eq_none (by rw [row_len]; omega)]
    split
    · rw [if_neg (by omega)]
    · rfl
theorem row_take (c : Nat → Nat) {L n : Nat} (h : n ≤ L) : (row c L).take n = row (cC c n) n := by
  refine List.ext_getElem? fun j => ?_
  rw [List.getElem?_take]
  by_cases hj : j < n
  · rw [if_pos hj, row_at _ (by omega), row_at _ hj]
    unfold cC
    rw [if_pos hj]
  · rw [if_neg hj, List.getElem?_eq_none (by rw [row_len]; omega)]
theorem row_same {c c' : Nat → Nat} {L : Nat} (h : ∀ i, i < L → c i = c' i) : row c L = row c' L := by
  refine List.ext_getElem? fun j => ?_
  by_cases hj : j < L
  · rw [row_at _ hj, row_at _ hj, h j hj]
  · rw [List.getElem?_eq_none (by rw [row_len]; omega), List.getElem?_eq_none (by rw [row_len]; omega)]

/-! operations -/
structure O where
  (kind at_ many : Int)
  data : List Nat
structure An where
  err : Int
  data : List Nat
/-- one operation, all ways (5: kind, 2: range; the numbers are api's) -/
inductive Way (eK eR : Int) (s : Sf) (o : O) : An → Sf → Prop
  | kind : o.kind < 1 ∨ o.kind > 3 → Way eK eR s o ⟨eK, []⟩ s
  | wbad : o.kind = 1 → (o.at_ < 0 ∨ o.at_ + o.data.length > 4096) → Way eK eR s o ⟨eR, []⟩ s
  | write (a : Nat) : o.kind = 1 → o.at_ = a → a + o.data.length ≤ 4096 → Way eK eR s o ⟨0, []⟩ (s.write a o.data)
  | rbad : o.kind = 2 → (o.at_ < 0 ∨ o.many < 0) → Way eK eR s o ⟨eR, []⟩ s
  | read (a m : Nat) : o.kind = 2 → o.at_ = a → o.many = m → Way eK eR s o ⟨0, s.read a m⟩ s
  | cbad : o.kind = 3 → (o.many < 0 ∨ o.many > 4096) → Way eK eR s o ⟨eR, []⟩ s
  | cut (n : Nat) : o.kind = 3 → o.many = n → n ≤ 4096 → Way eK eR s o ⟨0, []⟩ (s.cut n)
inductive Plays (eK eR : Int) : Sf → List O → List An → Sf → Prop
  | nil (s : Sf) : Plays eK eR s [] [] s
  | cons {s s1 sf : Sf} {o : O} {a : An} {ops : List O} {es : List An} : Way eK eR s o a s1 → Plays eK eR s1 ops es sf → Plays eK eR s (o :: ops) (a :: es) sf
theorem way_any (eK eR : Int) (s : Sf) (o : O) : ∃ a s1, Way eK eR s o a s1 := by
  by_cases h1 : o.kind = 1
  · by_cases hb : o.at_ < 0 ∨ o.at_ + o.data.length > 4096
    · exact ⟨_, _, .wbad h1 hb⟩
    · exact ⟨_, _, .write o.at_.toNat h1 (by omega) (by omega)⟩
  · by_cases h2 : o.kind = 2
    · by_cases hb : o.at_ < 0 ∨ o.many < 0
      · exact ⟨_, _, .rbad h2 hb⟩
      · exact ⟨_, _, .read o.at_.toNat o.many.toNat h2 (by omega) (by omega)⟩
    · by_cases h3 : o.kind = 3
      · by_cases hb : o.many < 0 ∨ o.many > 4096
        · exact ⟨_, _, .cbad h3 hb⟩
        · exact ⟨_, _, .cut o.many.toNat h3 (by omega) (by omega)⟩
      · exact ⟨_, _, .kind (by omega)⟩
theorem way_ok {eK eR : Int} {s s1 : Sf} {o : O} {a : An} (h : s.Ok) (hd : ∀ x ∈ o.data, x < 256) (hw : Way eK eR s o a s1) : s1.Ok := by
  cases hw with
  | kind _ => exact h
  | wbad _ _ => exact h
  | write a _ _ hl => exact h.write hl hd
  | rbad _ _ => exact h
  | read a m _ _ _ => exact h
  | cbad _ _ => exact h
  | cut n _ _ hn => exact h.cut hn
theorem plays_any (eK eR : Int) : ∀ (ops : List O) (s : Sf), ∃ es sf, Plays eK eR s ops es sf
  | [], s => ⟨[], s, .nil s⟩
  | o :: t, s => by
    obtain ⟨a, s1, h1⟩ := way_any eK eR s o
    obtain ⟨es, sf, h2⟩ := plays_any eK eR t s1
    exact ⟨_, _, .cons h1 h2⟩
end Fl
end Go.Proofs.Ytfljbiobiobamaa
