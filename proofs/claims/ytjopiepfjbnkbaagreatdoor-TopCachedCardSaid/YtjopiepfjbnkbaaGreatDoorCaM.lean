/-
  The plain law of a page cache: the ways through one operation, told of the list of pages, the least recently used one first. Conditions: none.
-/
import Derived.Test.YtjopiepfjbnkbaaGreatDoorRows
namespace Go.Proofs.YtjopiepfjbnkbaaGreatDoor
namespace Ca
set_option linter.unusedVariables false

structure O where
  (kind page data : Int)
/-- a page: its number, what it has, whether it was written -/
structure Pg where
  (n : Nat) (d : Int) (w : Bool)
structure Cs where
  (L : List Pg) (rd : List Int) (f s : Nat) (st : List Int)
def Pg.clean (p : Pg) : Pg := ⟨p.n, p.d, false⟩
def put1 (p : Pg) (st : List Int) : List Int := if p.w then st.set p.n p.d else st
def cnt1 (p : Pg) : Nat := if p.w then 1 else 0
def flushS (L : List Pg) (st : List Int) : List Int := L.foldl (fun s p => put1 p s) st
def flushN (L : List Pg) : Nat := (L.map cnt1).sum
def Out (L : List Pg) (page : Int) : Prop := ∀ p ∈ L, (p.n : Int) ≠ page

inductive Way (size : Nat) (c : Cs) (o : O) : Cs → Prop
  | flush (hk : o.kind = 3) : Way size c o ⟨c.L.map Pg.clean, c.rd, c.f, c.s + flushN c.L, flushS c.L c.st⟩
  | hitR {i : Nat} {p : Pg} (hk : o.kind = 1) (hi : c.L[i]? = some p) (hp : (p.n : Int) = o.page) : Way size c o ⟨c.L.eraseIdx i ++ [p], c.rd ++ [p.d], c.f, c.s, c.st⟩
  | hitW {i : Nat} {p : Pg} (hk : o.kind = 2) (hi : c.L[i]? = some p) (hp : (p.n : Int) = o.page) : Way size c o ⟨c.L.eraseIdx i ++ [⟨p.n, o.data, true⟩], c.rd, c.f, c.s, c.st⟩
  | missR {n : Nat} {x : Int} (hk : o.kind = 1) (hn : (n : Int) = o.page) (ho : Out c.L o.page) (hl : c.L.length < size) (hx : c.st[n]? = some x) : Way size c o ⟨c.L ++ [⟨n, x, false⟩], c.rd ++ [x], c.f + 1, c.s, c.st⟩
  | missW {n : Nat} (hk : o.kind = 2) (hn : (n : Int) = o.page) (ho : Out c.L o.page) (hl : c.L.length < size) : Way size c o ⟨c.L ++ [⟨n, o.data, true⟩], c.rd, c.f, c.s, c.st⟩
  | fullR {n : Nat} {x : Int} {q : Pg} {t : List Pg} (hk : o.kind = 1) (hn : (n : Int) = o.page) (ho : Out c.L o.page) (hl : c.L.length = size) (hq : c.L = q :: t) (hx : (put1 q c.st)[n]? = some x) :
      Way size c o ⟨t ++ [⟨n, x, false⟩], c.rd ++ [x], c.f + 1, c.s + cnt1 q, put1 q c.st⟩
  | fullW {n : Nat} {q : Pg} {t : List Pg} (hk : o.kind = 2) (hn : (n : Int) = o.page) (ho : Out c.L o.page) (hl : c.L.length = size) (hq : c.L = q :: t) : Way size c o ⟨t ++ [⟨n, o.data, true⟩], c.rd, c.f, c.s + cnt1 q, put1 q c.st⟩

/-- an operation that may be asked -/
def Good (o : O) : Prop := 1 ≤ o.kind ∧ o.kind ≤ 3 ∧ 0 ≤ o.page ∧ o.page < 16
/-- what stays true -/
structure Ok (size : Nat) (c : Cs) : Prop where
  len : c.L.length ≤ size
  st : c.st.length = 16
  low : ∀ p ∈ c.L, p.n < 16
  nd : (c.L.map Pg.n).Nodup

theorem put1_len (p : Pg) (st : List Int) : (put1 p st).length = st.length := by unfold put1; split <;> simp
theorem flush_len : ∀ (L : List Pg) (st : List Int), (flushS L st).length = st.length
  | [], st => rfl
  | p :: t, st => by rw [flushS, List.foldl_cons, ← flushS, flush_len t, put1_len]
theorem way_ex {size : Nat} {c : Cs} {o : O} (h1 : 1 ≤ size) (hc : Ok size c) (hg : Good o) : ∃ c', Way size c o c' := by
  obtain ⟨g1, g2, g3, g4⟩ := hg
  by_cases k3 : o.kind = 3
  · exact ⟨_, .flush k3⟩
  by_cases hin : ∃ (i : Nat) (p : Pg), c.L[i]? = some p ∧ (p.n : Int) = o.page
  · obtain ⟨i, p, hi, hp⟩ := hin
    by_cases k1 : o.kind = 1
    · exact ⟨_, .hitR k1 hi hp⟩
    · exact ⟨_, .hitW (by omega) hi hp⟩
  · have ho : Out c.L o.page := fun p hp e => by
      obtain ⟨i, hi⟩ := List.getElem?_of_mem hp
      exact hin ⟨i, p, hi, e⟩
    obtain ⟨n, hn⟩ : ∃ n : Nat, (n : Int) = o.page := ⟨o.page.toNat, by omega⟩
    have hl := hc.len
    rcases Nat.lt_or_eq_of_le hl with hl | hl
    · by_cases k1 : o.kind = 1
      · exact ⟨_, .missR k1 hn ho hl (List.getElem?_eq_getElem (by rw [hc.st]; omega))⟩
      · exact ⟨_, .missW (by omega) hn ho hl⟩
    · cases hL : c.L with
      | nil => rw [hL] at hl; simp at hl; omega
      | cons q t =>
        by_cases k1 : o.kind = 1
        · exact ⟨_, .fullR k1 hn ho hl hL (List.getElem?_eq_getElem (by rw [put1_len, hc.st]; omega))⟩
        · exact ⟨_, .fullW (by omega) hn ho hl hL⟩
theorem nodup_snoc {α : Type} {l : List α} {a : α} (h : l.Nodup) (ha : a ∉ l) : (l ++ [a]).Nodup :=
  List.nodup_append.2 ⟨h, by simp, fun x hx y hy e => by simp only [List.mem_singleton] at hy; subst hy e; exact ha hx⟩
theorem erase_nd {L : List Pg} {i : Nat} {p : Pg} (h : (L.map Pg.n).Nodup) (hi : L[i]? = some p) : ((L.eraseIdx i).map Pg.n).Nodup ∧ p.n ∉ (L.eraseIdx i).map Pg.n := by
  have hil := (List.getElem?_eq_some_iff.1 hi).1
  have h1 : L = L.take i ++ p :: L.drop (i + 1) := by
    have e := List.drop_eq_getElem_cons hil
    rw [(List.getElem?_eq_some_iff.1 hi).2] at e
    rw [← e, List.take_append_drop]
  have h2 : L.eraseIdx i = L.take i ++ L.drop (i + 1) := List.eraseIdx_eq_take_drop_succ ..
  rw [h2]
  have h3 : ((p :: (L.take i ++ L.drop (i + 1))).map Pg.n).Nodup := by
    refine ((List.Perm.map Pg.n ?_).nodup_iff).1 h
    rw [h1]
    simp only [List.take_append_of_le_length (show i ≤ (L.take i).length by rw [List.length_take]; omega), List.take_take, Nat.min_self]
    rw [show (L.take i ++ p :: L.drop (i + 1)).drop (i + 1) = L.drop (i + 1) by rw [← h1]]
    exact List.perm_middle
  rw [List.map_cons, List.nodup_cons] at h3
  exact ⟨h3.2, h3.1⟩
theorem map_clean (L : List Pg) : (L.map Pg.clean).map Pg.n = L.map Pg.n := by rw [List.map_map]; rfl
theorem out_mem {L : List Pg} {n : Nat} {page : Int} (hn : (n : Int) = page) (ho : Out L page) : n ∉ L.map Pg.n := fun h => by
  obtain ⟨p, hp, e⟩ := List.mem_map.1 h
  exact ho p hp (by rw [e, hn])
theorem way_ok {size : Nat} {c c' : Cs} {o : O} (hc : Ok size c) (hg : Good o) (h1 : 1 ≤ size) (h : Way size c o c') : Ok size c' := by
  obtain ⟨a1, a2, a3, a4⟩ := hc
  obtain ⟨g1, g2, g3, g4⟩ := hg
  cases h with
  | flush hk =>
    exact ⟨by simpa using a1, by rw [flush_len]; exact a2, fun p hp => by
      obtain ⟨q, hq, rfl⟩ := List.mem_map.1 hp
      exact a3 q hq, by rw [map_clean]; exact a4⟩
  | @hitR i p hk hi hp =>
    have hil := (List.getElem?_eq_some_iff.1 hi).1
    obtain ⟨b1, b2⟩ := erase_nd a4 hi
    exact ⟨by rw [List.length_append, List.length_eraseIdx, if_pos hil]; simp; omega, a2, fun q hq => by
      rcases List.mem_append.1 hq with h | h
      · exact a3 q ((List.eraseIdx_sublist _ _).subset h)
      · simp only [List.mem_singleton] at h
        subst h
        exact a3 _ (List.mem_of_getElem? hi), by rw [List.map_append]; exact nodup_snoc b1 b2⟩
  | @hitW i p hk hi hp =>
    have hil := (List.getElem?_eq_some_iff.1 hi).1
    obtain ⟨b1, b2⟩ := erase_nd a4 hi
    exact ⟨by rw [List.length_append, List.length_eraseIdx, if_pos hil]; simp; omega, a2, fun q hq => by
      rcases List.mem_append.1 hq with h | h
      · exact a3 q ((List.eraseIdx_sublist _ _).subset h)
      · simp only [List.mem_singleton] at h
        subst h
        exact a3 p (List.mem_of_getElem? hi), by rw [List.map_append]; exact nodup_snoc b1 b2⟩
  | @missR n x hk hn ho hl hx =>
    exact ⟨by simp only [List.length_append, List.length_singleton]; omega, a2, fun q hq => by
      rcases List.mem_append.1 hq with h | h
      · exact a3 q h
      · simp only [List.mem_singleton] at h
        subst h
        simp only
        omega, by rw [List.map_append]; exact nodup_snoc a4 (out_mem hn ho)⟩
  | @missW n hk hn ho hl =>
    exact ⟨by simp only [List.length_append, List.length_singleton]; omega, a2, fun q hq => by
      rcases List.mem_append.1 hq with h | h
      · exact a3 q h
      · simp only [List.mem_singleton] at h
        subst h
        simp only
        omega, by rw [List.map_append]; exact nodup_snoc a4 (out_mem hn ho)⟩
  | @fullR n x q t hk hn ho hl hq hx =>
    rw [hq] at a1 a3 a4 ho
    rw [List.map_cons, List.nodup_cons] at a4
    exact ⟨by rw [List.length_append]; simpa using a1, by rw [put1_len]; exact a2, fun y hy => by
      rcases List.mem_append.1 hy with h | h
      · exact a3 y (by simp [h])
      · simp only [List.mem_singleton] at h
        subst h
        simp only
        omega, by rw [List.map_append]; exact nodup_snoc a4.2 (out_mem hn (fun p hp => ho p (by simp [hp])))⟩
  | @fullW n q t hk hn ho hl hq =>
    rw [hq] at a1 a3 a4 ho
    rw [List.map_cons, List.nodup_cons] at a4
    exact ⟨by rw [List.length_append]; simpa using a1, by rw [put1_len]; exact a2, fun y hy => by
      rcases List.mem_append.1 hy with h | h
      · exact a3 y (by simp [h])
      · simp only [List.mem_singleton] at h
        subst h
        simp only
        omega, by rw [List.map_append]; exact nodup_snoc a4.2 (out_mem hn (fun p hp => ho p (by simp [hp])))⟩

inductive Plays (size : Nat) : Cs → List O → Cs → Prop
  | nil {c : Cs} : Plays size c [] c
  | cons {c c1 c2 : Cs} {o : O} {os : List O} (h : Way size c o c1) (r : Plays size c1 os c2) : Plays size c (o :: os) c2
theorem plays_ex {size : Nat} (h1 : 1 ≤ size) : ∀ (os : List O) (c : Cs), Ok size c → (∀ o ∈ os, Good o) → ∃ c', Plays size c os c'
  | [], c, _, _ => ⟨c, .nil⟩
  | o :: os, c, hc, hg => by
    obtain ⟨c1, hw⟩ := way_ex h1 hc (hg o (by simp))
    obtain ⟨c2, h2⟩ := plays_ex h1 os c1 (way_ok hc (hg o (by simp)) h1 hw) (fun x hx => hg x (by simp [hx]))
    exact ⟨c2, .cons hw h2⟩
/-- how large the counters may be -/
def Bd (c : Cs) (b : Nat) : Prop := c.rd.length ≤ b ∧ c.f ≤ b ∧ c.s ≤ 16 * b
theorem sum_le (L : List Pg) : flushN L ≤ L.length := by
  unfold flushN
  induction L with
  | nil => simp
  | cons p t ih =>
    rw [List.map_cons, List.sum_cons, List.length_cons]
    have : cnt1 p ≤ 1 := by unfold cnt1; split <;> simp
    omega
theorem way_bd {size b : Nat} {c c' : Cs} {o : O} (hc : Ok size c) (hs : size ≤ 16) (hb : Bd c b) (h : Way size c o c') : Bd c' (b + 1) := by
  obtain ⟨b1, b2, b3⟩ := hb
  have c1 : ∀ p : Pg, cnt1 p ≤ 1 := fun p => by unfold cnt1; split <;> simp
  cases h with
  | flush hk =>
    have := sum_le c.L
    have := hc.len
    exact ⟨by simp only; omega, by simp only; omega, by simp only; omega⟩
  | fullR hk hn ho hl hq hx => have := c1; exact ⟨by simp only [List.length_append, List.length_singleton]; omega, by simp only; omega, by simp only; have := this ‹Pg›; omega⟩
  | fullW hk hn ho hl hq => have := c1; exact ⟨by simp only; omega, by simp only; omega, by simp only; have := this ‹Pg›; omega⟩
  | _ => exact ⟨by first | (simp only [List.length_append, List.length_singleton]; omega) | (simp only; omega), by simp only; omega, by simp only; omega⟩
end Ca
end Go.Proofs.YtjopiepfjbnkbaaGreatDoor
