/-
  The plain law of scripts: words, lines, what a line says, how a text is read. Plain Lean, no program. Conditions: none.
-/
import Derived.Test.YtgfldhdmdeeknaaGreatDoorSoBase
import Derived.Lib.Split
import Derived.Lib.ShelfFacts
import Derived.Lib.ItoaNum
import Derived.Lib.ParseIntB
import Derived.Lib.SlTrimSet
namespace Go.Proofs.YtgfldhdmdeeknaaGreatDoor
set_option linter.unusedVariables false
namespace Bn
abbrev By := List UInt8

/-! words between one byte -/
def spl (c : UInt8) : By → List By
  | [] => [[]]
  | b :: l => if b = c then [] :: spl c l else
    match spl c l with
    | [] => [[b]]
    | x :: r => (b :: x) :: r
theorem spl_ne (c : UInt8) (s : By) : ∃ x r, spl c s = x :: r := by
  cases s with
  | nil => exact ⟨_, _, rfl⟩
  | cons b l =>
    unfold spl
    split
    · exact ⟨_, _, rfl⟩
    · split <;> exact ⟨_, _, rfl⟩
theorem spl_at (c : UInt8) (l : By) : spl c (c :: l) = [] :: spl c l := by
  conv => lhs; unfold spl
  rw [if_pos rfl]
theorem spl_other {b c : UInt8} {l : By} (h : b ≠ c) {x : By} {r : List By} (hx : spl c l = x :: r) : spl c (b :: l) = (b :: x) :: r := by
  conv => lhs; unfold spl
  rw [if_neg h, hx]
theorem spl_pre {c : UInt8} : ∀ (x s : By), (∀ b ∈ x, b ≠ c) → ∀ y r, spl c s = y :: r → spl c (x ++ s) = (x ++ y) :: r
  | [], s, _, y, r, h => h
  | b :: x, s, hx, y, r, h => by
    have ih := spl_pre x s (fun c hc => hx c (by simp [hc])) y r h
    rw [List.cons_append, spl_other (hx b (by simp)) ih]
    rfl
theorem spl_none {c : UInt8} (x : By) (hx : ∀ b ∈ x, b ≠ c) : spl c x = [x] := by
  have h := spl_pre x [] hx [] [] rfl
  rwa [List.append_nil] at h
theorem spl_cut {c : UInt8} (x s : By) (hx : ∀ b ∈ x, b ≠ c) : spl c (x ++ c :: s) = x :: spl c s := by
  have h := spl_pre x (c :: s) hx [] (spl c s) (spl_at c s)
  rwa [List.append_nil] at h
/-- with or without the byte -/
theorem has_or {c : UInt8} : ∀ s : By, (∀ b ∈ s, b ≠ c) ∨ ∃ x t, s = x ++ c :: t ∧ ∀ b ∈ x, b ≠ c
  | [] => .inl (by simp)
  | b :: s => by
    by_cases h : b = c
    · subst h; exact .inr ⟨[], s, rfl, by simp⟩
    · rcases has_or (c := c) s with h1 | ⟨x, t, rfl, h1⟩
      · exact .inl (fun d hd => by rcases List.mem_cons.1 hd with rfl | hd; exact h; exact h1 d hd)
      · exact .inr ⟨b :: x, t, rfl, fun d hd => by rcases List.mem_cons.1 hd with rfl | hd; exact h; exact h1 d hd⟩
theorem index_no {c : UInt8} : ∀ s : By, (∀ b ∈ s, b ≠ c) → Lib.index s [c] = -1
  | [], _ => rfl
  | b :: s, h => by
    have ih := index_no s (fun d hd => h d (by simp [hd]))
    have h0 : ([c] : By).isPrefixOf (b :: s) = false := by
      have : ¬ c = b := fun e => h b (by simp) e.symm
      simp [List.isPrefixOf, this]
    unfold Lib.index
    rw [h0, ih]
    rfl
theorem index_at {c : UInt8} : ∀ (x t : By), (∀ b ∈ x, b ≠ c) → Lib.index (x ++ c :: t) [c] = (x.length : Int)
  | [], t, _ => by
    unfold Lib.index
    simp [List.isPrefixOf]
  | b :: x, t, h => by
    have ih := index_at x t (fun d hd => h d (by simp [hd]))
    have h0 : ([c] : By).isPrefixOf (b :: (x ++ c :: t)) = false := by
      have : ¬ c = b := fun e => h b (by simp) e.symm
      simp [List.isPrefixOf, this]
    rw [List.cons_append]
    unfold Lib.index
    rw [h0, ih]
    have : ((x.length : Int) == -1) = false := by rw [beq_eq_false_iff_ne]; omega
    simp [this]
theorem split_spl (c : UInt8) : ∀ (n : Nat) (s : By), s.length ≤ n → Lib.splitK [c] 0 (Lib.count s [c]) s = spl c s
  | n, s, hn => by
    rcases has_or (c := c) s with h | ⟨x, t, rfl, h⟩
    · rw [Lib.count_miss (index_no s h), spl_none s h]
      rfl
    · have hi := index_at x t h
      cases n with
      | zero => simp at hn
      | succ n =>
        have e : Lib.count (x ++ c :: t) [c] = Lib.count t [c] + 1 := by
          rw [Lib.count_hit (by simp) hi]
          have : (x ++ c :: t).drop (x.length + [c].length) = t := by simp
          rw [this, Nat.add_comm]
        have ih := split_spl c n t (by simp at hn; omega)
        rw [e, Lib.splitK, hi, if_neg (by rw [beq_iff_eq]; omega), spl_cut x t h]
        have e1 : (x ++ c :: t).take ((x.length : Int).toNat + 0) = x := by simp
        have e2 : (x ++ c :: t).drop ((x.length : Int).toNat + [c].length) = t := by simp
        rw [e1, e2, ih]
theorem cut_at {c : UInt8} (x t : By) (h : ∀ b ∈ x, b ≠ c) : Lib.cut (x ++ c :: t) [c] = (x, t, true) := by
  unfold Lib.cut
  rw [index_at x t h, if_pos (by omega)]
  have e1 : (x ++ c :: t).take ((x.length : Int).toNat) = x := by simp
  have e2 : (x ++ c :: t).drop ((x.length : Int).toNat + [c].length) = t := by simp
  rw [e1, e2]
theorem cut_no {c : UInt8} (s : By) (h : ∀ b ∈ s, b ≠ c) : Lib.cut s [c] = (s, [], false) := by
  unfold Lib.cut
  rw [index_no s h, if_neg (by omega)]

/-! names -/
def wch (b : UInt8) : Bool := (decide (97 ≤ b.toNat) && decide (b.toNat ≤ 122)) || (decide (48 ≤ b.toNat) && decide (b.toNat ≤ 57))
def wd (s : By) : Bool := decide (1 ≤ s.length) && decide (s.length ≤ 12) && s.all wch
def alnum : By := [97, 98, 99, 100, 101, 102, 103, 104, 105, 106, 107, 108, 109, 110, 111, 112, 113, 114, 115, 116, 117, 118, 119, 120, 121, 122, 48, 49, 50, 51, 52, 53, 54, 55, 56, 57]
theorem alnum_wch : ∀ b : UInt8, alnum.contains b = wch b := by
  have h : ∀ n : Fin 256, alnum.contains (UInt8.ofNat n.val) = wch (UInt8.ofNat n.val) := by decide +kernel
  intro b
  have := h ⟨b.toNat, b.toNat_lt⟩
  simpa using this
theorem drop_all {p : UInt8 → Bool} : ∀ l : By, l.dropWhile p = [] ↔ l.all p = true
  | [] => by simp
  | a :: l => by
    rw [List.dropWhile_cons]
    cases h : p a with
    | true => simp [drop_all l, h]
    | false => simp [h]
theorem trim_all (s : By) : Lib.trimS s alnum = [] ↔ s.all wch = true := by
  have hp : (fun b => alnum.contains b) = wch := funext alnum_wch
  unfold Lib.trimS Lib.trimLeftS Lib.trimRightS
  rw [hp]
  constructor
  · intro h
    rw [drop_all] at h
    rw [List.all_reverse] at h
    by_cases h2 : s.all wch = true
    · exact h2
    · have h3 : s.reverse.dropWhile wch ≠ [] := fun e => h2 (by rw [drop_all, List.all_reverse] at e; exact e)
      obtain ⟨a, t, ha⟩ : ∃ a t, s.reverse.dropWhile wch = a :: t := by
        cases hd : s.reverse.dropWhile wch with
        | nil => exact absurd hd h3
        | cons a t => exact ⟨a, t, rfl⟩
      have h4 : wch a = false := by
        have := List.head_dropWhile_not wch (l := s.reverse) (by rw [ha]; simp)
        simpa [ha] using this
      rw [ha] at h
      simp [h4] at h
  · intro h
    have h1 : s.reverse.dropWhile wch = [] := by rw [drop_all, List.all_reverse]; exact h
    rw [h1]
    rfl
theorem wd_no {s : By} (h : wd s = true) {c : UInt8} (hc : wch c = false) : ∀ b ∈ s, b ≠ c := by
  intro b hb e
  unfold wd at h
  simp only [Bool.and_eq_true, List.all_eq_true] at h
  have := h.2 b hb
  rw [e, hc] at this
  cases this

/-! bytes in hexadecimal -/
def hx (l : By) : By := if l = [] then [45] else Lib.Hx.encode l
theorem hx_dec (l : By) : (if hx l = [45] then [] else (Lib.Hx.decode (hx l)).1) = l := by
  by_cases h : l = []
  · subst h; rfl
  · have e : hx l = Lib.Hx.encode l := if_neg h
    have hl : hx l ≠ [45] := fun e2 => by
      have := Lib.Hx.encode_length l
      rw [← e, e2] at this
      simp at this
      omega
    rw [if_neg hl, e, Lib.Hx.decode_encode]
theorem digit_ne : ∀ n : Fin 16, Lib.Hx.digit n.val ≠ 32 ∧ Lib.Hx.digit n.val ≠ 10 := by decide +kernel
theorem hx_no (l : By) : ∀ b ∈ hx l, b ≠ 32 ∧ b ≠ 10 := by
  intro b hb
  unfold hx at hb
  split at hb
  · rw [List.mem_singleton.1 hb]; decide
  · unfold Lib.Hx.encode at hb
    obtain ⟨x, _, hx⟩ := List.mem_flatMap.1 hb
    have hx2 := x.toNat_lt
    simp only [List.mem_cons, List.not_mem_nil, or_false] at hx
    rcases hx with rfl | rfl
    · exact digit_ne ⟨x.toNat / 16, by omega⟩
    · exact digit_ne ⟨x.toNat % 16, by omega⟩

/-! numbers -/
theorem dec_small {u : Nat} (h : u < 10) : Lib.decDigits u = [UInt8.ofNat (48 + u)] := by rw [Lib.decDigits, dif_pos h]
theorem dec_big {u : Nat} (h : ¬ u < 10) : Lib.decDigits u = Lib.decDigits (u / 10) ++ [UInt8.ofNat (48 + u % 10)] := by rw [Lib.decDigits, dif_neg h]
theorem dig_nat {d : Nat} (h : d < 10) : (UInt8.ofNat (48 + d)).toNat = 48 + d := by simp; omega
theorem dec_all : ∀ (n u : Nat), u ≤ n → ∀ b ∈ Lib.decDigits u, 48 ≤ b.toNat ∧ b.toNat ≤ 57
  | n, u, hn, b, hb => by
    by_cases h : u < 10
    · rw [dec_small h] at hb
      rw [List.mem_singleton.1 hb, dig_nat h]
      omega
    · rw [dec_big h] at hb
      cases n with
      | zero => omega
      | succ n =>
        rcases List.mem_append.1 hb with hb | hb
        · exact dec_all n (u / 10) (by omega) b hb
        · rw [List.mem_singleton.1 hb, dig_nat (by omega)]
          omega
theorem dec_ne (u : Nat) : Lib.decDigits u ≠ [] := by
  by_cases h : u < 10
  · rw [dec_small h]; simp
  · rw [dec_big h]; simp
theorem pu_snoc (c : UInt8) (hc : 48 ≤ c.toNat ∧ c.toNat ≤ 57) : ∀ (xs : By) (acc v : Nat), Lib.parseUint10 acc xs = .ok v → v < 184467440737095516 → Lib.parseUint10 acc (xs ++ [c]) = .ok (v * 10 + (c.toNat - 48))
  | [], acc, v, h, hv => by
    simp only [Lib.parseUint10] at h
    injection h with h
    subst h
    simp only [List.nil_append, Lib.parseUint10]
    rw [if_pos hc, if_neg (by omega), if_neg (by omega)]
  | x :: xs, acc, v, h, hv => by
    simp only [Lib.parseUint10, List.cons_append] at h ⊢
    split at h
    · next h1 =>
      rw [if_pos h1]
      split at h
      · cases h
      · next h2 =>
        rw [if_neg h2]
        split at h
        · cases h
        · next h3 =>
          rw [if_neg h3]
          exact pu_snoc c hc xs _ v h hv
    · cases h
theorem pu_dec : ∀ (n u : Nat), u ≤ n → u ≤ 1099511627776 → Lib.parseUint10 0 (Lib.decDigits u) = .ok u
  | n, u, hn, hu => by
    by_cases h : u < 10
    · rw [dec_small h]
      simp only [Lib.parseUint10]
      rw [dig_nat h, if_pos (by omega), if_neg (by omega), if_neg (by omega)]
      congr 1
      omega
    · rw [dec_big h]
      cases n with
      | zero => omega
      | succ n =>
        rw [pu_snoc _ (by rw [dig_nat (by omega)]; omega) _ 0 (u / 10) (pu_dec n (u / 10) (by omega) (by omega)) (by omega), dig_nat (by omega)]
        congr 1
        omega
theorem pm_snoc (c : UInt8) (hc : 48 ≤ c.toNat ∧ c.toNat ≤ 57) : ∀ (xs : By) (acc v : Nat), Lib.parseUintM 18446744073709551615 acc xs = .ok v → v < 184467440737095516 → Lib.parseUintM 18446744073709551615 acc (xs ++ [c]) = .ok (v * 10 + (c.toNat - 48))
  | [], acc, v, h, hv => by
    simp only [Lib.parseUintM] at h
    injection h with h
    subst h
    simp only [List.nil_append, Lib.parseUintM]
    rw [if_pos hc, if_neg (by omega), if_neg (by omega)]
  | x :: xs, acc, v, h, hv => by
    simp only [Lib.parseUintM, List.cons_append] at h ⊢
    split at h
    · next h1 =>
      rw [if_pos h1]
      split at h
      · cases h
      · next h2 =>
        rw [if_neg h2]
        split at h
        · cases h
        · next h3 =>
          rw [if_neg h3]
          exact pm_snoc c hc xs _ v h hv
    · cases h
theorem pm_dec : ∀ (n u : Nat), u ≤ n → u ≤ 1099511627776 → Lib.parseUintM 18446744073709551615 0 (Lib.decDigits u) = .ok u
  | n, u, hn, hu => by
    by_cases h : u < 10
    · rw [dec_small h]
      simp only [Lib.parseUintM]
      rw [dig_nat h, if_pos (by omega), if_neg (by omega), if_neg (by omega)]
      congr 1
      omega
    · rw [dec_big h]
      cases n with
      | zero => omega
      | succ n =>
        rw [pm_snoc _ (by rw [dig_nat (by omega)]; omega) _ 0 (u / 10) (pm_dec n (u / 10) (by omega) (by omega)) (by omega), dig_nat (by omega)]
        congr 1
        omega
theorem itoa_nat (k : Int) (h : 0 ≤ k) : Lib.itoa k = Lib.decDigits k.toNat := if_neg (by omega)
theorem itoa_no (k : Int) (h : 0 ≤ k) : ∀ b ∈ Lib.itoa k, b ≠ 32 ∧ b ≠ 10 := by
  intro b hb
  rw [itoa_nat k h] at hb
  have := dec_all _ _ (Nat.le_refl _) b hb
  constructor <;> (intro e; rw [e] at this; revert this; decide)
theorem atoi_itoa (k : Int) (h : 0 ≤ k) (h2 : k ≤ 1099511627776) : Lib.atoiAll (Lib.itoa k) = .ok k := by
  rw [itoa_nat k h]
  have hp := pu_dec _ k.toNat (Nat.le_refl _) (by omega)
  have ha := dec_all _ k.toNat (Nat.le_refl _)
  have hn := dec_ne k.toNat
  cases hd : Lib.decDigits k.toNat with
  | nil => exact absurd hd hn
  | cons c r =>
    rw [hd] at hp ha
    have hc := ha c (by simp)
    unfold Lib.atoiAll
    simp only
    rw [if_neg (by omega)]
    have hm : Lib.parseMag (c :: r) = .ok k.toNat := by unfold Lib.parseMag; rw [if_neg (by simp), hp]
    rw [hm]
    simp only
    rw [if_neg (by omega), if_neg (by omega), if_neg (by omega)]
    congr 1
    omega
theorem int_itoa (k : Int) (h : 0 ≤ k) (h2 : k ≤ 1099511627776) : Lib.parseIntB 64 (Lib.itoa k) = .ok k := by
  rw [itoa_nat k h]
  have hp := pm_dec _ k.toNat (Nat.le_refl _) (by omega)
  have ha := dec_all _ k.toNat (Nat.le_refl _)
  have hn := dec_ne k.toNat
  cases hd : Lib.decDigits k.toNat with
  | nil => exact absurd hd hn
  | cons c r =>
    rw [hd] at hp ha
    have hc := ha c (by simp)
    unfold Lib.parseIntB
    simp only
    rw [if_neg (by omega)]
    have hm : Lib.parseUintB 64 (c :: r) = .ok k.toNat := by unfold Lib.parseUintB; rw [if_neg (by simp)]; exact hp
    rw [hm]
    simp only
    rw [if_neg (by omega), if_neg (by omega), if_neg (by omega)]
    congr 1
    omega

/-! lines -/
def nmL (o : So.Op) : By := o.nm.data.toList
def dtL (o : So.Op) : By := o.dt.data.toList
def pW : By := [119, 114, 105, 116, 101]
def pM : By := [114, 101, 109, 111, 118, 101]
def pR : By := [114, 101, 97, 100]
def pS : By := [115, 121, 110, 99]
def pC : By := [99, 114, 97, 115, 104]
def lt (o : So.Op) : By :=
  if o.kind = 1 then pW ++ 32 :: (nmL o ++ 32 :: hx (dtL o)) else if o.kind = 2 then pM ++ 32 :: nmL o else if o.kind = 3 then pR ++ 32 :: nmL o else if o.kind = 4 then pS else if o.kind = 5 then pC ++ 32 :: Lib.itoa o.keep else []
def lk (o : So.Op) : Bool :=
  if o.kind = 1 ∨ o.kind = 2 ∨ o.kind = 3 then wd (nmL o) else if o.kind = 4 then true else if o.kind = 5 then decide (0 ≤ o.keep) && decide (o.keep ≤ 1099511627776) else false
def bsO (x : By) : ByteArray := ⟨x.toArray⟩
def e0 : ByteArray := ⟨#[]⟩
/-- an operation that a line can be -/
inductive Canon : So.Op → Prop
  | write (nm dt : ByteArray) : Canon ⟨1, nm, dt, 0⟩
  | remove (nm : ByteArray) : Canon ⟨2, nm, e0, 0⟩
  | read (nm : ByteArray) : Canon ⟨3, nm, e0, 0⟩
  | sync : Canon ⟨4, e0, e0, 0⟩
  | crash (k : Int) : Canon ⟨5, e0, e0, k⟩
  | zero : Canon ⟨0, e0, e0, 0⟩
def Reads (l : By) (o : So.Op) : Prop := Canon o ∧ lk o = true ∧ lt o = l
/-- what parsing a line gives: if the line is one at all, its operation -/
def Rdl (l : By) (o : So.Op) : Prop := Canon o ∧ ∀ o', Reads l o' → o = o'
theorem data_bs (x : ByteArray) : bsO x.data.toList = x := by simp [bsO]
/-- the words of a line -/
theorem words_of {l : By} {o : So.Op} (h : Reads l o) :
    (∃ nm dt : ByteArray, o = ⟨1, nm, dt, 0⟩ ∧ spl 32 l = [pW, nm.data.toList, hx dt.data.toList]) ∨ (∃ nm : ByteArray, o = ⟨2, nm, e0, 0⟩ ∧ spl 32 l = [pM, nm.data.toList]) ∨ (∃ nm : ByteArray, o = ⟨3, nm, e0, 0⟩ ∧ spl 32 l = [pR, nm.data.toList]) ∨
    (o = ⟨4, e0, e0, 0⟩ ∧ spl 32 l = [pS]) ∨ (∃ k : Int, o = ⟨5, e0, e0, k⟩ ∧ 0 ≤ k ∧ k ≤ 1099511627776 ∧ spl 32 l = [pC, Lib.itoa k]) := by
  obtain ⟨hc, hk, rfl⟩ := h
  cases hc with
  | write nm dt =>
    have hw : wd nm.data.toList = true := hk
    refine .inl ⟨nm, dt, rfl, ?_⟩
    show spl 32 (pW ++ 32 :: (nm.data.toList ++ 32 :: hx dt.data.toList)) = _
    rw [spl_cut pW _ (by decide), spl_cut _ _ (wd_no hw (by decide)), spl_none _ (fun b hb => (hx_no _ b hb).1)]
  | remove nm =>
    have hw : wd nm.data.toList = true := hk
    refine .inr (.inl ⟨nm, rfl, ?_⟩)
    show spl 32 (pM ++ 32 :: nm.data.toList) = _
    rw [spl_cut pM _ (by decide), spl_none _ (wd_no hw (by decide))]
  | read nm =>
    have hw : wd nm.data.toList = true := hk
    refine .inr (.inr (.inl ⟨nm, rfl, ?_⟩))
    show spl 32 (pR ++ 32 :: nm.data.toList) = _
    rw [spl_cut pR _ (by decide), spl_none _ (wd_no hw (by decide))]
  | sync => exact .inr (.inr (.inr (.inl ⟨rfl, by decide⟩)))
  | crash k =>
    have hw : (decide (0 ≤ k) && decide (k ≤ 1099511627776)) = true := hk
    simp only [Bool.and_eq_true, decide_eq_true_eq] at hw
    refine .inr (.inr (.inr (.inr ⟨k, rfl, hw.1, hw.2, ?_⟩)))
    show spl 32 (pC ++ 32 :: Lib.itoa k) = _
    rw [spl_cut pC _ (by decide), spl_none _ (fun b hb => (itoa_no k hw.1 b hb).1)]
  | zero => exact absurd hk (by decide)
theorem reads_one {l : By} {o o' : So.Op} (h : Rdl l o) (h' : Reads l o') : Reads l o ∧ o = o' := by
  have e := h.2 o' h'
  subst e
  exact ⟨h', rfl⟩
theorem rdl_reads {l : By} {o : So.Op} (h : Rdl l o) (hk : lk o = true) (hl : lt o = l) : Reads l o := ⟨h.1, hk, hl⟩

/-- how a text is read: its operations, or how many lines were well -/
inductive PR : By → List So.Op → Option (List So.Op) → Nat → Prop
  | done {es} : PR [] es (some es) 0
  | rest {s es} (h : s ≠ []) (hn : ∀ b ∈ s, b ≠ 10) : PR s es none es.length
  | line {l t es o r k} (hn : ∀ b ∈ l, b ≠ 10) (h : Reads l o) (ht : PR t (es ++ [o]) r k) : PR (l ++ 10 :: t) es r k
  | bad {l t es} (hn : ∀ b ∈ l, b ≠ 10) (h : ∀ o, ¬ Reads l o) : PR (l ++ 10 :: t) es none es.length
theorem pr_ex : ∀ (n : Nat) (s : By) (es : List So.Op), s.length ≤ n → ∃ r k, PR s es r k
  | n, s, es, hn => by
    by_cases h0 : s = []
    · subst h0; exact ⟨_, _, .done⟩
    · rcases has_or (c := 10) s with h | ⟨l, t, rfl, h⟩
      · exact ⟨_, _, .rest h0 h⟩
      · by_cases hr : ∃ o, Reads l o
        · obtain ⟨o, ho⟩ := hr
          cases n with
          | zero => simp at hn
          | succ n =>
            obtain ⟨r, k, ht⟩ := pr_ex n t (es ++ [o]) (by simp at hn; omega)
            exact ⟨r, k, .line h ho ht⟩
        · exact ⟨_, _, .bad h (fun o ho => hr ⟨o, ho⟩)⟩
/-- the text of operations -/
def txt (l : List So.Op) : By := l.flatMap fun o => lt o ++ [10]
end Bn
end Go.Proofs.YtgfldhdmdeeknaaGreatDoor
