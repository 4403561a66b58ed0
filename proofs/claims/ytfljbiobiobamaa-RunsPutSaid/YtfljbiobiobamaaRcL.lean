/-
  Walk of the reference's MList. Conditions: none beyond the theorem's own premises.
-/
import Derived.Test.YtfljbiobiobamaaRcW
import Derived.Test.YtfljbiobiobamaaMap
import Derived.Test.YtfljbiobiobamaaInv
import Derived.Test.YtfljbiobiobamaaDelIns
import Derived.Test.YtfljbiobiobamaaSort
import Derived.BigRegion
namespace Go.Proofs.Ytfljbiobiobamaa
open Go.RowKit
set_option linter.unusedVariables false
namespace Runs

abbrev bm (g n : Nat) (h : Int → Option Bool) : It := .map Try.prog 3 (Value.int .i64) Value.bool g n h
theorem kint : KMk Try.prog 3 (Value.int .i64) (fun x => (Lit.int .i64 x).wf = true) := kmk_int Try.underlying3
theorem bz (w : World) : (zeroValue 4).run Try.prog w = .ok (.bool false) w := by kernel_rfl
/-- the map that holds just these keys -/
def eh (E : List Int) : Int → Option Bool := fun x => if x ∈ E then some true else none
theorem eh_cons (E : List Int) (x : Int) : mup (eh E) x true = eh (x :: E) := by
  funext y
  by_cases h : y = x
  · subst h; rw [mup_same]; simp [eh]
  · rw [mup_other _ _ h]; simp [eh, h]
theorem eh_one (x : Int) : mup mno x true = eh [x] := by
  funext y
  by_cases h : y = x
  · subst h; rw [mup_same]; simp [eh]
  · rw [mup_other _ _ h]; simp [eh, h, mno]
theorem eh_two (x y : Int) : eh [x, y] = eh [y, x] := by
  funext z
  simp only [eh, List.mem_cons, List.not_mem_nil, or_false]
  congr 1
  rw [eq_iff_iff]
  exact Or.comm
theorem eh_no {n m : Nat} (x : Int) : (if (mno (α := Bool) x).isSome = true then n else m) = m := rfl
theorem eh_not {n m : Nat} {E : List Int} {x : Int} (h : x ∉ E) : (if (eh E x).isSome = true then n else m) = m := by
  rw [if_neg]
  simp [eh, h]
theorem eh_some {E : List Int} {x : Int} : (eh E x).isSome = true ↔ x ∈ E := by
  unfold eh
  split <;> simp [*]
def Ef (E : List Int) (x : R) : List Int := (x.at_ + x.many) :: x.at_ :: E
/-- the edges -/
def Eof (r : R) (l : List R) : List Int := l.foldl Ef [r.at_ + r.many, r.at_]
theorem Eof_take {r : R} {l : List R} {k : Nat} {x : R} (h : l[k]? = some x) : Eof r (l.take (k + 1)) = (x.at_ + x.many) :: x.at_ :: Eof r (l.take k) := by
  unfold Eof
  rw [List.take_add_one, h, List.foldl_append]
  rfl
theorem mem_Ef (y : Int) : ∀ (l : List R) (E : List Int), y ∈ l.foldl Ef E ↔ y ∈ E ∨ ∃ x ∈ l, y = x.at_ ∨ y = x.at_ + x.many
  | [], E => by simp
  | a :: t, E => by
    rw [List.foldl_cons, mem_Ef y t]
    simp only [Ef, List.mem_cons]
    constructor
    · rintro ((h | h | h) | h)
      · exact .inr ⟨a, .inl rfl, .inr h⟩
      · exact .inr ⟨a, .inl rfl, .inl h⟩
      · exact .inl h
      · obtain ⟨x, hx, h⟩ := h
        exact .inr ⟨x, .inr hx, h⟩
    · rintro (h | ⟨x, rfl | hx, h⟩)
      · exact .inl (.inr (.inr h))
      · rcases h with h | h
        · exact .inl (.inr (.inl h))
        · exact .inl (.inl h)
      · exact .inr ⟨x, hx, h⟩
theorem mem_Eof {y : Int} {r : R} {l : List R} : y ∈ Eof r l ↔ (y = r.at_ + r.many ∨ y = r.at_) ∨ ∃ x ∈ l, y = x.at_ ∨ y = x.at_ + x.many := by
  unfold Eof
  rw [mem_Ef]
  simp

/-- a piece from one edge to the next -/
def IsP (E : List Int) (dk : Int → Int) (q : R) : Prop := q.at_ ∈ E ∧ q.at_ + q.many ∈ E ∧ 1 ≤ q.many ∧ (∀ y ∈ E, q.at_ < y → q.at_ + q.many ≤ y) ∧ dk q.at_ = q.disk ∧ 0 ≤ q.disk
/-- the pieces so far: those of the edges that have come -/
def Acc (E : List Int) (dk : Int → Int) (todo : List Int) (acc : List R) : Prop := (∀ q, q ∈ acc ↔ IsP E dk q ∧ q.at_ ∉ todo) ∧ (acc.map (·.at_)).Nodup
theorem acc_add {E todo : List Int} {dk : Int → Int} {acc : List R} {x v : Int} (ha : Acc E dk todo acc) (hnd : todo.Nodup) (hx : x ∈ todo) (hxE : x ∈ E) (hv : v ∈ E) (hxv : x < v) (hmin : ∀ y ∈ E, x < y → v ≤ y) (hD : 0 ≤ dk x) : Acc E dk (todo.erase x) (acc ++ [⟨x, dk x, v - x⟩]) := by
  obtain ⟨h1, h2⟩ := ha
  refine ⟨fun q => ?_, ?_⟩
  · rw [List.mem_append, List.mem_singleton, h1, hnd.mem_erase_iff]
    constructor
    · rintro (⟨a, b⟩ | rfl)
      · exact ⟨a, fun h => b h.2⟩
      · refine ⟨⟨hxE, ?_, by simp only; omega, fun y hy hxy => ?_, rfl, hD⟩, fun h => h.1 rfl⟩
        · simp only
          rw [show x + (v - x) = v by omega]
          exact hv
        · have := hmin y hy hxy
          simp only
          omega
    · rintro ⟨⟨a1, a2, a3, a4, a5, a6⟩, b⟩
      by_cases hq : q.at_ = x
      · right
        have e1 := hmin _ a2 (by omega)
        have e2 := a4 v hv (by omega)
        obtain ⟨qa, qd, qm⟩ := q
        simp only at hq a5 e1 e2 a3
        subst hq
        rw [a5, show qm = v - qa by omega]
      · exact .inl ⟨⟨a1, a2, a3, a4, a5, a6⟩, fun h => b ⟨hq, h⟩⟩
  · rw [List.map_append, List.map_singleton]
    refine List.nodup_append.2 ⟨h2, by simp, fun a ha b hb e => ?_⟩
    simp only [List.mem_singleton] at hb
    subst hb e
    obtain ⟨q, hq, rfl⟩ := List.mem_map.1 ha
    exact ((h1 q).1 hq).2 hx
theorem acc_skip {E todo : List Int} {dk : Int → Int} {acc : List R} {x : Int} (ha : Acc E dk todo acc) (hnd : todo.Nodup) (h : dk x < 0 ∨ ∀ y ∈ E, ¬ x < y) : Acc E dk (todo.erase x) acc := by
  obtain ⟨h1, h2⟩ := ha
  refine ⟨fun q => ?_, h2⟩
  rw [h1, hnd.mem_erase_iff]
  constructor
  · rintro ⟨a, b⟩
    exact ⟨a, fun h => b h.2⟩
  · rintro ⟨⟨a1, a2, a3, a4, a5, a6⟩, b⟩
    refine ⟨⟨a1, a2, a3, a4, a5, a6⟩, fun hq => b ⟨fun e => ?_, hq⟩⟩
    subst e
    rcases h with h | h
    · omega
    · exact h _ a2 (by omega)
/-- the least edge above x of those that have come -/
def To (E : List Int) (x : Int) (todo : List Int) (v : Int) : Prop := (v = 1152921504606846976 ∧ ∀ y ∈ E, x < y → y ∈ todo) ∨ (v ∈ E ∧ x < v ∧ ∀ y ∈ E, x < y → y ∉ todo → v ≤ y)
theorem to_next {E todo : List Int} {x v y : Int} (h : To E x todo v) (hnd : todo.Nodup) (hyE : y ∈ E) (hy : x < y) (hv : y < v) : To E x (todo.erase y) y := by
  refine .inr ⟨hyE, hy, fun z hz hxz hn => ?_⟩
  rw [hnd.mem_erase_iff] at hn
  by_cases e : z = y
  · omega
  · rcases h with ⟨rfl, h⟩ | ⟨_, _, h⟩
    · exact absurd ⟨e, h z hz hxz⟩ hn
    · have := h z hz hxz (fun h' => hn ⟨e, h'⟩)
      omega
theorem to_same {E todo : List Int} {x v y : Int} (h : To E x todo v) (hnd : todo.Nodup) (hb : ∀ z ∈ E, z < 1152921504606846976) (hyE : y ∈ E) (hy : ¬ x < y ∨ ¬ y < v) : To E x (todo.erase y) v := by
  rcases h with ⟨rfl, h⟩ | ⟨h0, h1, h⟩
  · have hy' : ¬ x < y := by
      rcases hy with hy | hy
      · exact hy
      · exact absurd (hb y hyE) hy
    refine .inl ⟨rfl, fun z hz hxz => ?_⟩
    rw [hnd.mem_erase_iff]
    exact ⟨fun e => hy' (e ▸ hxz), h z hz hxz⟩
  · refine .inr ⟨h0, h1, fun z hz hxz hn => ?_⟩
    rw [hnd.mem_erase_iff] at hn
    by_cases e : z = y
    · subst e
      rcases hy with hy | hy
      · exact absurd hxz hy
      · omega
    · exact h z hz hxz (fun h' => hn ⟨e, h'⟩)
def dkf (put : Bool) (r : R) (l : List R) (x : Int) : Int := if r.at_ ≤ x ∧ x < r.at_ + r.many then (if put then r.disk + x - r.at_ else -1) else mfindL x l

def ltR (a b : R) : Bool := decide (a.at_ < b.at_)
/-- what the pieces come to, sorted and joined -/
theorem mlist_plain {E : List Int} {dk : Int → Int} {acc cl : List R} (ha : Acc E dk [] acc) (hc : NF none cl) (hE : ∀ q ∈ cl, q.at_ ∈ E ∧ q.at_ + q.many ∈ E) (hf : ∀ x ∈ E, ∀ d, fn x cl = some d ↔ (dk x = d ∧ 0 ≤ d)) :
    join (Srt.isort ltR acc.length acc) = cl ∧ ∀ q ∈ Srt.isort ltR acc.length acc, IsP E dk q := by
  have hp := Srt.isort_perm ltR acc
  have hasc := Srt.isort_asc ltR (fun a b c h1 h2 => by simp [ltR] at *; omega) (fun a b h => by simp [ltR] at *; omega) acc
  generalize Srt.isort ltR acc.length acc = P at hp hasc
  have hm : ∀ q, q ∈ P ↔ IsP E dk q := fun q => by
    rw [hp.mem_iff, ha.1]
    simp
  have hnd : (P.map (·.at_)).Nodup := ((hp.map _).nodup_iff).2 ha.2
  have hlt : P.Pairwise (fun a b => a.at_ < b.at_) := by
    unfold List.Nodup at hnd
    rw [List.pairwise_map] at hnd
    refine (hnd.and hasc).imp (fun {a b} h => ?_)
    have h2 : ¬ b.at_ < a.at_ := by simpa [ltR] using h.2
    have := h.1
    omega
  refine ⟨join_pieces hc hE (fun q => ?_) hlt, fun q hq => (hm q).1 hq⟩
  rw [hm]
  constructor
  · rintro ⟨a1, a2, a3, a4, a5, a6⟩
    exact ⟨a1, a2, a3, a4, (hf _ a1 _).2 ⟨a5, a6⟩⟩
  · rintro ⟨a1, a2, a3, a4, a5⟩
    obtain ⟨a6, a7⟩ := (hf _ a1 _).1 a5
    exact ⟨a1, a2, a3, a4, a6, a7⟩
/-- neighbours joined so far -/
def Jn (cl cur : List R) (k : Nat) : Prop := (cur = [] ∧ cl = [] ∧ k = 1) ∨ ∃ pre a t, cur = pre ++ a :: t ∧ k = pre.length + 1 ∧ cl = pre ++ join (a :: t)
theorem jn_start (P : List R) : Jn (join P) P 1 := by
  cases P with
  | nil => exact .inl ⟨rfl, by rw [join], rfl⟩
  | cons a t => exact .inr ⟨[], a, t, rfl, rfl, rfl⟩
theorem jn_end {cl cur : List R} {k : Nat} (h : Jn cl cur k) (hk : ¬ k < cur.length) : cur = cl := by
  rcases h with ⟨rfl, rfl, _⟩ | ⟨pre, a, t, rfl, rfl, rfl⟩
  · rfl
  · have : t = [] := List.eq_nil_of_length_eq_zero (by rw [List.length_append, List.length_cons] at hk; omega)
    subst this
    rw [join]
theorem jn_mid {cl cur : List R} {j : Nat} {a b : R} (h : Jn cl cur (j + 1)) (ha : cur[j]? = some a) (hb : cur[j + 1]? = some b) : ∃ pre t, pre.length = j ∧ cur = pre ++ a :: b :: t ∧ cl = pre ++ join (a :: b :: t) := by
  rcases h with ⟨rfl, _, _⟩ | ⟨pre, a', t, rfl, hk, rfl⟩
  · simp at ha
  · have hj : j = pre.length := by omega
    subst hj
    rw [List.getElem?_append_right (Nat.le_refl _), Nat.sub_self] at ha
    rw [List.getElem?_append_right (by omega), Nat.add_sub_cancel_left] at hb
    simp at ha
    subst ha
    cases t with
    | nil => simp at hb
    | cons b' t =>
      simp at hb
      subst hb
      exact ⟨pre, t, rfl, rfl, rfl⟩
theorem jn_stay {cl cur : List R} {j : Nat} {a b : R} (h : Jn cl cur (j + 1)) (ha : cur[j]? = some a) (hb : cur[j + 1]? = some b) (hn : ¬ (a.at_ + a.many = b.at_ ∧ a.disk + a.many = b.disk)) : Jn cl cur (j + 2) := by
  obtain ⟨pre, t, rfl, rfl, rfl⟩ := jn_mid h ha hb
  exact .inr ⟨pre ++ [a], b, t, by simp, by simp, by rw [join, if_neg hn]; simp⟩
theorem jn_join {cl cur : List R} {j : Nat} {a b : R} (h : Jn cl cur (j + 1)) (ha : cur[j]? = some a) (hb : cur[j + 1]? = some b) (hn : a.at_ + a.many = b.at_ ∧ a.disk + a.many = b.disk) :
    Jn cl ((cur.set j ⟨a.at_, a.disk, a.many + b.many⟩).take (j + 1) ++ (cur.set j ⟨a.at_, a.disk, a.many + b.many⟩).drop (j + 2)) (j + 1) := by
  obtain ⟨pre, t, rfl, rfl, rfl⟩ := jn_mid h ha hb
  refine .inr ⟨pre, ⟨a.at_, a.disk, a.many + b.many⟩, t, ?_, rfl, by rw [join, if_pos hn]⟩
  rw [List.set_append_right _ _ (Nat.le_refl _), Nat.sub_self, List.set_cons_zero]
  rw [List.take_append, List.take_of_length_le (by omega), Nat.add_sub_cancel_left, List.drop_append, List.drop_of_length_le (by omega), show pre.length + 2 - pre.length = 2 by omega]
  simp
/-- s = append(s[:i], s[i+1:]...), s a row -/
theorem strike2_sep {P : Program} {t e : TypeId} {ti : TypeInfo} {C : Nat} (ht : P.underlying t = some (.slice e)) (hti : P.info? e = some ti) (hsize : ti.size = C) (hC0 : 0 < C)
    {w0 w : World} {L : List It} (H : Sep w0 w L) (j : Nat) {A : Option Addr} {m c i : Nat} {xs : List Value} (hj : L[j]? = some (.row e C (.slice A (m + 1) c) (m + 1) xs)) (hi : i ≤ m) (hmc : m + 1 ≤ c) (h1 : ∀ u ∈ xs, u.oneCell' = true) :
    ∃ (A2 : Option Addr) (d c2 : Nat), (∀ w, (Instr.slice t (.slice A (m + 1) c) none (some (.int .i64 (i : Int))) none).run P w = .ok (.slice A i c) w) ∧
      (∀ w, (Instr.slice t (.slice A (m + 1) c) (some (.int .i64 ((i + 1 : Nat) : Int))) none none).run P w = .ok (.slice A2 d c2) w) ∧
      ∀ W w0, Sep w0 W L → ∃ w2, (∀ ty, (Builtin.append_ #[t, t] ty #[.slice A i c, .slice A2 d c2]).run P W = .ok (.slice A m c) w2) ∧ Sep w0 w2 (L.set j (.row e C (.slice A m c) m (xs.take (i * C) ++ xs.drop ((i + 1) * C)))) := by
  have hC : ∀ w, (sizeOf e).run P w = .ok C w := size_of_info hti hsize
  have hf := from_run ht hC A (m + 1) c (i + 1) (by omega)
  obtain ⟨g, rfl⟩ := row_base (H.rowHas j hj) (by omega)
  have hxl : xs.length = (m + 1) * C := (H.rowHas j hj).1
  have hjl := (List.getElem?_eq_some_iff.1 hj).1
  refine ⟨fromAddr (some ⟨g, 0, none⟩) c (i + 1) C, m - i, c - (i + 1), upto_run ht hC _ _ _ _ (by omega), fun w => by have := hf w; rw [show m + 1 - (i + 1) = m - i by omega] at this; exact this, fun W w0 HW => ?_⟩
  have hrd : Rd W W.heap.size C (fromAddr (some ⟨g, 0, none⟩) c (i + 1) C) (m - i) (xs.drop ((i + 1) * C)) := by
    have := rd_fromAddr (HW.rd j hj) (k := i + 1) (by omega) hmc
    rwa [show m + 1 - (i + 1) = m - i by omega] at this
  have HC := HW.cut j hj (m := i) (by omega)
  have hj2 : (L.set j (.row e C (.slice (some ⟨g, 0, none⟩) i c) i (xs.take (i * C))))[j]? = some (.row e C (.slice (some ⟨g, 0, none⟩) i c) i (xs.take (i * C))) := by rw [List.getElem?_set, if_pos rfl, if_pos hjl]
  rcases Nat.eq_zero_or_pos (m - i) with h0 | h0
  · obtain rfl : i = m := by omega
    refine ⟨W, fun ty => by rw [Nat.sub_self]; exact run_append_none W ht hti _ _ _ _ _ (by omega), ?_⟩
    rw [List.drop_of_length_le (by omega), List.append_nil]
    exact HC
  · obtain ⟨b, off, hA, hb, hcc⟩ := hrd.2 h0
    rw [hA] at hrd ⊢
    obtain ⟨w2, h2, h3⟩ := run_append_room_sep (P := P) HC j t t e ti C ht hti hsize hj2 _ b off (m - i) (c - (i + 1)) _ hrd h0 (fun u hu => h1 u (List.mem_of_mem_drop hu)) (by omega)
    rw [show i + (m - i) = m by omega] at h2 h3
    rw [List.set_set] at h3
    exact ⟨w2, fun ty => h2, h3⟩
theorem many_set {l : List R} {k : Nat} {x : R} (h : l[k]? = some x) (v : Int) : (l.flatMap R.cells).set (k * 3 + 2) (.int .i64 v) = (l.set k ⟨x.at_, x.disk, v⟩).flatMap R.cells := by
  induction l generalizing k with
  | nil => simp at h
  | cons y t ih =>
    cases k with
    | zero =>
      simp at h
      subst h
      rfl
    | succ k =>
      rw [List.set_cons_succ, List.flatMap_cons, List.flatMap_cons, List.set_append_right _ _ (by rw [R.len]; omega), R.len, show (k + 1) * 3 + 2 - 3 = k * 3 + 2 by omega, ih (by simpa using h)]
theorem oper_append_run {P : Program} {o : Oper} {a : Act} {w : World} {K : Act → World → Prop} {Q : Exit → Act → World → Prop} (s x : Operand) (t : TypeId) (ho : o.op = .call { callee := .builtin .append, args := #[s, x], argTypes := #[t, t] })
    (v1 v2 v' : Value) (w' : World) (hs : a.eval s = v1) (hx : a.eval x = v2) (hrun : (Builtin.append_ #[t, t] o.type #[v1, v2]).run P w = .ok v' w') (h : K (a.put o.dst v') w') : o.wp P a w K Q := by
  unfold Oper.wp execOp
  simp only [ho, resolve, invoke, builtin, Sem.run_bind, Sem.run_pure, Result.andThen_ok, List.map_toArray, List.map_cons, List.map_nil, hs, hx, hrun]
  exact h
/-- small enough -/
def Bq (q : R) : Prop := 0 ≤ q.at_ ∧ 1 ≤ q.many ∧ q.at_ + q.many ≤ 4398046511104 ∧ 0 ≤ q.disk ∧ q.disk + q.many ≤ 8796093022208
theorem bq_join {a b : R} (ha : Bq a) (hb : Bq b) (hn : a.at_ + a.many = b.at_ ∧ a.disk + a.many = b.disk) : Bq ⟨a.at_, a.disk, a.many + b.many⟩ := by
  unfold Bq at *
  simp only
  omega
theorem R.rowCells {cur : List R} {m : Nat} {y : R} (hy : cur[m]? = some y) : (cur.flatMap R.cells)[m * 3]? = some (.int .i64 y.at_) ∧ (cur.flatMap R.cells)[m * 3 + 1]? = some (.int .i64 y.disk) ∧ (cur.flatMap R.cells)[m * 3 + 2]? = some (.int .i64 y.many) :=
  ⟨flat_get R.len cur m 0 y hy (by decide), flat_get R.len cur m 1 y hy (by decide), flat_get R.len cur m 2 y hy (by decide)⟩
def MRet (w : World) (cl : List R) (e : Ending) (w' : World) : Prop := ∃ A' c', e = .returned (.tuple #[.slice A' cl.length c', .bool (rightB cl)]) ∧ Sep w w' [.row 50 3 (.slice A' cl.length c') cl.length (cl.flatMap R.cells)]

set_option maxRecDepth 100000 in
set_option maxHeartbeats 6400000 in
theorem mlist_any (A : Option Addr) (n c : Nat) (l cl : List R) (ra rd rm : Int) (put : Bool) (w : World) (hr : Rd w w.heap.size 3 A n (l.flatMap R.cells)) (hl : l.length = n) (hn : n ≤ 1099511627777) (hsm : ∀ x ∈ l, Small x)
    (ha0 : 0 ≤ ra) (ha1 : ra ≤ 1099511627776) (hd0 : 0 ≤ rd) (hd1 : rd ≤ 1099511627776) (hm0 : 1 ≤ rm) (hm1 : rm ≤ 1099511627776)
    (hNF : NF none cl) (hEc : ∀ q ∈ cl, q.at_ ∈ Eof ⟨ra, rd, rm⟩ l ∧ q.at_ + q.many ∈ Eof ⟨ra, rd, rm⟩ l) (hfn : ∀ x ∈ Eof ⟨ra, rd, rm⟩ l, ∀ d, fn x cl = some d ↔ (dkf put ⟨ra, rd, rm⟩ l x = d ∧ 0 ≤ d)) :
    Calls Try.prog 18 #[.slice A n c, .agg #[.int .i64 ra, .int .i64 rd, .int .i64 rm], .bool put] w (MRet w cl) := by
  obtain ⟨ti, hti, t0, t1, t2⟩ := info_parts run_info
  have HR := Lib.hid hr
  have HL := Lib.hid hl
  have HSM := Lib.hid hsm
  have HWA : Hid ((Lit.int .i64 ra).wf = true) := Lib.hid (WalkArith.wf_i64 (by omega))
  have HWB : Hid ((Lit.int .i64 (ra + rm)).wf = true) := Lib.hid (WalkArith.wf_i64 (by omega))
  have HS : Hid (Sep w (w.alloc (.cells #[.int .i64 ra, .int .i64 rd, .int .i64 rm] 50)) [.cells w.heap.size 50 [.int .i64 ra, .int .i64 rd, .int .i64 rm]]) := Lib.hid ((Sep.nil_ w).new 50 [.int .i64 ra, .int .i64 rd, .int .i64 rm])
  have hwr : IntKind.i64.wrap (ra + rm) = ra + rm := IntWalk.i64_in _ ⟨by omega, by omega⟩
  have HNF := Lib.hid hNF
  have HEC := Lib.hid hEc
  have HFN := Lib.hid hfn
  clear hr hl hsm hNF hEc hfn
  go_enter Try.func18, Try.ntmps18
  go_upto_region 1 with (fail)
  generalize w.alloc (.cells #[.int .i64 ra, .int .i64 rd, .int .i64 rm] 50) = w1 at HS ⊢
  generalize w.heap.size = gr at HS ⊢
  refine wp_region_inv0 (fun ac0 L ac w' => ∃ x8 x20 x21 x22 x23 x24 x25 x26 x27 x28, ac = turn ac0 [(8, x8), (20, x20), (21, x21), (22, x22), (23, x23), (24, x24), (25, x25), (26, x26), (27, x27), (28, x28)] ∧ (L 1 = true → x21 = .pointer (some ⟨gr, 0, none⟩)) ∧ (L 2 = true → x22 = .int .i64 ra) ∧ (L 4 = true → x23 = .pointer (some ⟨gr, 0, none⟩)) ∧ (L 5 = true → x24 = .int .i64 ra) ∧ (L 6 = true → x25 = .pointer (some ⟨gr, 2, none⟩)) ∧ (L 7 = true → x26 = .int .i64 rm) ∧ (L 8 = true → x27 = .int .i64 (ra + rm)) ∧ (L 10 = true → x28 = x20) ∧ (L 11 = true → x8 = x28) ∧ (L 2 = true → L 1 = true) ∧ (L 3 = true → L 0 = true ∧ L 2 = true) ∧ (L 5 = true → L 4 = true) ∧ (L 7 = true → L 6 = true) ∧ (L 8 = true → L 5 = true ∧ L 7 = true) ∧ (L 9 = true → L 0 = true ∧ L 8 = true) ∧ (L 10 = true → L 0 = true ∧ L 1 = true ∧ L 2 = true ∧ L 3 = true ∧ L 4 = true ∧ L 5 = true ∧ L 6 = true ∧ L 7 = true ∧ L 8 = true ∧ L 9 = true) ∧ (L 11 = true → L 0 = true ∧ L 1 = true ∧ L 2 = true ∧ L 3 = true ∧ L 4 = true ∧ L 5 = true ∧ L 6 = true ∧ L 7 = true ∧ L 8 = true ∧ L 9 = true ∧ L 10 = true) ∧ (if L 3 = true then (if L 9 = true then (∃ gm, x20 = .map (some gm) ∧ Sep w w' [.cells gr 50 [.int .i64 ra, .int .i64 rd, .int .i64 rm], bm gm 2 (eh [ra + rm, ra])]) else (∃ gm, x20 = .map (some gm) ∧ Sep w w' [.cells gr 50 [.int .i64 ra, .int .i64 rd, .int .i64 rm], bm gm 1 (eh [ra])])) else (if L 9 = true then (∃ gm, x20 = .map (some gm) ∧ Sep w w' [.cells gr 50 [.int .i64 ra, .int .i64 rd, .int .i64 rm], bm gm 1 (eh [ra + rm])]) else (if L 0 = true then (∃ gm, x20 = .map (some gm) ∧ Sep w w' [.cells gr 50 [.int .i64 ra, .int .i64 rd, .int .i64 rm], bm gm 0 mno]) else Sep w w' [.cells gr 50 [.int .i64 ra, .int .i64 rd, .int .i64 rm]])))) rfl (by kernel_rfl) ?_ ?_ ?_
  · simp only [turn, List.foldl_cons, List.foldl_nil, List.setIfInBounds_toArray, List.set_cons_succ, List.set_cons_zero]
    exact ⟨_, _, _, _, _, _, _, _, _, _, rfl, (fun h => absurd h (by decide)), (fun h => absurd h (by decide)), (fun h => absurd h (by decide)), (fun h => absurd h (by decide)), (fun h => absurd h (by decide)), (fun h => absurd h (by decide)), (fun h => absurd h (by decide)), (fun h => absurd h (by decide)), (fun h => absurd h (by decide)), (fun h => absurd h (by decide)), (fun h => absurd h (by decide)), (fun h => absurd h (by decide)), (fun h => absurd h (by decide)), (fun h => absurd h (by decide)), (fun h => absurd h (by decide)), (fun h => absurd h (by decide)), (fun h => absurd h (by decide)), by simpa using HS.out.drew⟩
  · rintro L ac w' i o ⟨x8, x20, x21, x22, x23, x24, x25, x26, x27, x28, ha, p1, p2, p4, p5, p6, p7, p8, p10, p11, q2, q3, q5, q7, q8, q9, q10, q11, hS⟩ ho hi he
    simp only [turn, List.foldl_cons, List.foldl_nil, List.setIfInBounds_toArray, List.set_cons_succ, List.set_cons_zero] at ha ⊢
    subst ha
    rcases i with _|_|_|_|_|_|_|_|_|_|_|_|i
    all_goals cases ho
    all_goals simp [Region.binds] at he
    · have h3 : L 3 = false := by cases hh : L 3 with | false => rfl | true => (have hq := q3 hh; simp [hi] at hq)
      have h9 : L 9 = false := by cases hh : L 9 with | false => rfl | true => (have hq := q9 hh; simp [hi] at hq)
      have h10 : L 10 = false := by cases hh : L 10 with | false => rfl | true => (have hq := q10 hh; simp [hi] at hq)
      have h11 : L 11 = false := by cases hh : L 11 with | false => rfl | true => (have hq := q11 hh; simp [hi] at hq)
      rw [if_neg (by simp [h3]), if_neg (by simp [h9]), if_neg (by simp [hi])] at hS
      have hN := hS.newMap Try.prog 3 (Value.int .i64) Value.bool
      refine wpOp_step rfl (fun K hK => ?_)
      go_simp
      exact hK _ _ ⟨_, _, _, _, _, _, _, _, _, _, rfl, (by first | exact p1 | exact fun _ => rfl), (by first | exact p2 | exact fun _ => rfl), (by first | exact p4 | exact fun _ => rfl), (by first | exact p5 | exact fun _ => rfl), (by first | exact p6 | exact fun _ => rfl), (by first | exact p7 | exact fun _ => rfl), (by first | exact p8 | exact fun _ => rfl), (by simp [h10]), (by simp [h11]), (by simpa using q2), (by simp [h3]), (by simpa using q5), (by simpa using q7), (by simpa using q8), (by simp [h9]), (by simp [h10]), (by simp [h11]), (by rw [if_neg (by simp [h3]), if_neg (by simp [h9]), if_pos (by simp)]; exact ⟨_, rfl, hN⟩)⟩
    · have h2 : L 2 = false := by cases hh : L 2 with | false => rfl | true => (have hq := q2 hh; simp [hi] at hq)
      have h10 : L 10 = false := by cases hh : L 10 with | false => rfl | true => (have hq := q10 hh; simp [hi] at hq)
      have h11 : L 11 = false := by cases hh : L 11 with | false => rfl | true => (have hq := q11 hh; simp [hi] at hq)
      have h3 : L 3 = false := by cases hh : L 3 with | false => rfl | true => (have hq := q3 hh; simp [h2] at hq)
      refine wpOp_step rfl (fun K hK => ?_)
      go_simp
      exact hK _ _ ⟨_, _, _, _, _, _, _, _, _, _, rfl, (fun _ => rfl), (by simp [h2]), (by first | exact p4 | exact fun _ => rfl), (by first | exact p5 | exact fun _ => rfl), (by first | exact p6 | exact fun _ => rfl), (by first | exact p7 | exact fun _ => rfl), (by first | exact p8 | exact fun _ => rfl), (by simp [h10]), (by simp [h11]), (by simp [h2]), (by simp [h3]), (by simpa using q5), (by simpa using q7), (by simpa using q8), (by simpa using q9), (by simp [h10]), (by simp [h11]), (by simpa [h2, h10, h11, h3] using hS)⟩
    · have h3 : L 3 = false := by cases hh : L 3 with | false => rfl | true => (have hq := q3 hh; simp [hi] at hq)
      have h10 : L 10 = false := by cases hh : L 10 with | false => rfl | true => (have hq := q10 hh; simp [hi] at hq)
      have h11 : L 11 = false := by cases hh : L 11 with | false => rfl | true => (have hq := q11 hh; simp [hi] at hq)
      obtain rfl := p1 (by simp [he])
      have f0 : w'.cell? ⟨gr, 0, none⟩ = some (.int .i64 ra) := by
        repeat' split at hS
        all_goals first
          | exact hS.elim fun _ h => h.2.cell 0 rfl rfl
          | exact hS.cell 0 rfl rfl
      refine wpOp_step rfl (fun K hK => ?_)
      go_simp
      exact hK _ _ ⟨_, _, _, _, _, _, _, _, _, _, rfl, (by first | exact p1 | exact fun _ => rfl), (fun _ => rfl), (by first | exact p4 | exact fun _ => rfl), (by first | exact p5 | exact fun _ => rfl), (by first | exact p6 | exact fun _ => rfl), (by first | exact p7 | exact fun _ => rfl), (by first | exact p8 | exact fun _ => rfl), (by simp [h10]), (by simp [h11]), (by simp [he]), (by simp [h3]), (by simpa using q5), (by simpa using q7), (by simpa using q8), (by simpa using q9), (by simp [h10]), (by simp [h11]), (by simpa [h3, h10, h11] using hS)⟩
    · have h10 : L 10 = false := by cases hh : L 10 with | false => rfl | true => (have hq := q10 hh; simp [hi] at hq)
      have h11 : L 11 = false := by cases hh : L 11 with | false => rfl | true => (have hq := q11 hh; simp [hi] at hq)
      obtain rfl := p2 (by simp [he])
      have t0 : L 0 = true := by simp [he]
      by_cases hj : L 9 = true
      · rw [if_neg (by simp [hi]), if_pos hj] at hS
        obtain ⟨gm, rfl, hS⟩ := hS
        obtain ⟨w5, hrun, hsz, hN⟩ := hS.store 1 rfl kint HWA.out Try.underlying68 (by simp only [maxLen]; omega) true
        rw [eh_not (by simp; omega), eh_cons, eh_two] at hN
        refine wpOp_step rfl (fun K hK => ?_)
        go_simp
        exact hK _ _ ⟨_, _, _, _, _, _, _, _, _, _, rfl, (by first | exact p1 | exact fun _ => rfl), (by first | exact p2 | exact fun _ => rfl), (by first | exact p4 | exact fun _ => rfl), (by first | exact p5 | exact fun _ => rfl), (by first | exact p6 | exact fun _ => rfl), (by first | exact p7 | exact fun _ => rfl), (by first | exact p8 | exact fun _ => rfl), (by simp [h10]), (by simp [h11]), (by simpa using q2), (by simp [he]), (by simpa using q5), (by simpa using q7), (by simpa using q8), (by simpa using q9), (by simp [h10]), (by simp [h11]), (by rw [if_pos (by simp), if_pos (by simpa using hj)]; exact ⟨_, rfl, hN⟩)⟩
      · rw [if_neg (by simp [hi]), if_neg hj, if_pos t0] at hS
        obtain ⟨gm, rfl, hS⟩ := hS
        obtain ⟨w5, hrun, hsz, hN⟩ := hS.store 1 rfl kint HWA.out Try.underlying68 (by simp only [maxLen]; omega) true
        rw [eh_no ra, eh_one] at hN
        refine wpOp_step rfl (fun K hK => ?_)
        go_simp
        exact hK _ _ ⟨_, _, _, _, _, _, _, _, _, _, rfl, (by first | exact p1 | exact fun _ => rfl), (by first | exact p2 | exact fun _ => rfl), (by first | exact p4 | exact fun _ => rfl), (by first | exact p5 | exact fun _ => rfl), (by first | exact p6 | exact fun _ => rfl), (by first | exact p7 | exact fun _ => rfl), (by first | exact p8 | exact fun _ => rfl), (by simp [h10]), (by simp [h11]), (by simpa using q2), (by simp [he]), (by simpa using q5), (by simpa using q7), (by simpa using q8), (by simpa using q9), (by simp [h10]), (by simp [h11]), (by rw [if_pos (by simp), if_neg (by simpa using hj)]; exact ⟨_, rfl, hN⟩)⟩
    · have h5 : L 5 = false := by cases hh : L 5 with | false => rfl | true => (have hq := q5 hh; simp [hi] at hq)
      have h10 : L 10 = false := by cases hh : L 10 with | false => rfl | true => (have hq := q10 hh; simp [hi] at hq)
      have h11 : L 11 = false := by cases hh : L 11 with | false => rfl | true => (have hq := q11 hh; simp [hi] at hq)
      have h8 : L 8 = false := by cases hh : L 8 with | false => rfl | true => (have hq := q8 hh; simp [h5] at hq)
      have h9 : L 9 = false := by cases hh : L 9 with | false => rfl | true => (have hq := q9 hh; simp [h8] at hq)
      refine wpOp_step rfl (fun K hK => ?_)
      go_simp
      exact hK _ _ ⟨_, _, _, _, _, _, _, _, _, _, rfl, (by first | exact p1 | exact fun _ => rfl), (by first | exact p2 | exact fun _ => rfl), (fun _ => rfl), (by simp [h5]), (by first | exact p6 | exact fun _ => rfl), (by first | exact p7 | exact fun _ => rfl), (by simp [h8]), (by simp [h10]), (by simp [h11]), (by simpa using q2), (by simpa using q3), (by simp [h5]), (by simpa using q7), (by simp [h8]), (by simp [h9]), (by simp [h10]), (by simp [h11]), (by simpa [h5, h10, h11, h8, h9] using hS)⟩
    · have h8 : L 8 = false := by cases hh : L 8 with | false => rfl | true => (have hq := q8 hh; simp [hi] at hq)
      have h10 : L 10 = false := by cases hh : L 10 with | false => rfl | true => (have hq := q10 hh; simp [hi] at hq)
      have h11 : L 11 = false := by cases hh : L 11 with | false => rfl | true => (have hq := q11 hh; simp [hi] at hq)
      have h9 : L 9 = false := by cases hh : L 9 with | false => rfl | true => (have hq := q9 hh; simp [h8] at hq)
      obtain rfl := p4 (by simp [he])
      have f0 : w'.cell? ⟨gr, 0, none⟩ = some (.int .i64 ra) := by
        repeat' split at hS
        all_goals first
          | exact hS.elim fun _ h => h.2.cell 0 rfl rfl
          | exact hS.cell 0 rfl rfl
      refine wpOp_step rfl (fun K hK => ?_)
      go_simp
      exact hK _ _ ⟨_, _, _, _, _, _, _, _, _, _, rfl, (by first | exact p1 | exact fun _ => rfl), (by first | exact p2 | exact fun _ => rfl), (by first | exact p4 | exact fun _ => rfl), (fun _ => rfl), (by first | exact p6 | exact fun _ => rfl), (by first | exact p7 | exact fun _ => rfl), (by simp [h8]), (by simp [h10]), (by simp [h11]), (by simpa using q2), (by simpa using q3), (by simp [he]), (by simpa using q7), (by simp [h8]), (by simp [h9]), (by simp [h10]), (by simp [h11]), (by simpa [h8, h10, h11, h9] using hS)⟩
    · have h7 : L 7 = false := by cases hh : L 7 with | false => rfl | true => (have hq := q7 hh; simp [hi] at hq)
      have h10 : L 10 = false := by cases hh : L 10 with | false => rfl | true => (have hq := q10 hh; simp [hi] at hq)
      have h11 : L 11 = false := by cases hh : L 11 with | false => rfl | true => (have hq := q11 hh; simp [hi] at hq)
      have h8 : L 8 = false := by cases hh : L 8 with | false => rfl | true => (have hq := q8 hh; simp [h7] at hq)
      have h9 : L 9 = false := by cases hh : L 9 with | false => rfl | true => (have hq := q9 hh; simp [h8] at hq)
      refine wpOp_step rfl (fun K hK => ?_)
      go_simp
      exact hK _ _ ⟨_, _, _, _, _, _, _, _, _, _, rfl, (by first | exact p1 | exact fun _ => rfl), (by first | exact p2 | exact fun _ => rfl), (by first | exact p4 | exact fun _ => rfl), (by first | exact p5 | exact fun _ => rfl), (fun _ => rfl), (by simp [h7]), (by simp [h8]), (by simp [h10]), (by simp [h11]), (by simpa using q2), (by simpa using q3), (by simpa using q5), (by simp [h7]), (by simp [h8]), (by simp [h9]), (by simp [h10]), (by simp [h11]), (by simpa [h7, h10, h11, h8, h9] using hS)⟩
    · have h8 : L 8 = false := by cases hh : L 8 with | false => rfl | true => (have hq := q8 hh; simp [hi] at hq)
      have h10 : L 10 = false := by cases hh : L 10 with | false => rfl | true => (have hq := q10 hh; simp [hi] at hq)
      have h11 : L 11 = false := by cases hh : L 11 with | false => rfl | true => (have hq := q11 hh; simp [hi] at hq)
      have h9 : L 9 = false := by cases hh : L 9 with | false => rfl | true => (have hq := q9 hh; simp [h8] at hq)
      obtain rfl := p6 (by simp [he])
      have f0 : w'.cell? ⟨gr, 2, none⟩ = some (.int .i64 rm) := by
        repeat' split at hS
        all_goals first
          | exact hS.elim fun _ h => h.2.cell 0 rfl rfl
          | exact hS.cell 0 rfl rfl
      refine wpOp_step rfl (fun K hK => ?_)
      go_simp
      exact hK _ _ ⟨_, _, _, _, _, _, _, _, _, _, rfl, (by first | exact p1 | exact fun _ => rfl), (by first | exact p2 | exact fun _ => rfl), (by first | exact p4 | exact fun _ => rfl), (by first | exact p5 | exact fun _ => rfl), (by first | exact p6 | exact fun _ => rfl), (fun _ => rfl), (by simp [h8]), (by simp [h10]), (by simp [h11]), (by simpa using q2), (by simpa using q3), (by simpa using q5), (by simp [he]), (by simp [h8]), (by simp [h9]), (by simp [h10]), (by simp [h11]), (by simpa [h8, h10, h11, h9] using hS)⟩
    · have h9 : L 9 = false := by cases hh : L 9 with | false => rfl | true => (have hq := q9 hh; simp [hi] at hq)
      have h10 : L 10 = false := by cases hh : L 10 with | false => rfl | true => (have hq := q10 hh; simp [hi] at hq)
      have h11 : L 11 = false := by cases hh : L 11 with | false => rfl | true => (have hq := q11 hh; simp [hi] at hq)
      obtain rfl := p5 (by simp [he])
      obtain rfl := p7 (by simp [he])
      refine wpOp_step rfl (fun K hK => ?_)
      go_simp
      exact hK _ _ ⟨_, _, _, _, _, _, _, _, _, _, rfl, (by first | exact p1 | exact fun _ => rfl), (by first | exact p2 | exact fun _ => rfl), (by first | exact p4 | exact fun _ => rfl), (by first | exact p5 | exact fun _ => rfl), (by first | exact p6 | exact fun _ => rfl), (by first | exact p7 | exact fun _ => rfl), (fun _ => rfl), (by simp [h10]), (by simp [h11]), (by simpa using q2), (by simpa using q3), (by simpa using q5), (by simpa using q7), (by simp [he]), (by simp [h9]), (by simp [h10]), (by simp [h11]), (by simpa [h9, h10, h11] using hS)⟩
    · have h10 : L 10 = false := by cases hh : L 10 with | false => rfl | true => (have hq := q10 hh; simp [hi] at hq)
      have h11 : L 11 = false := by cases hh : L 11 with | false => rfl | true => (have hq := q11 hh; simp [hi] at hq)
      obtain rfl := p8 (by simp [he])
      have t0 : L 0 = true := by simp [he]
      by_cases hj : L 3 = true
      · rw [if_pos hj, if_neg (by simp [hi])] at hS
        obtain ⟨gm, rfl, hS⟩ := hS
        obtain ⟨w5, hrun, hsz, hN⟩ := hS.store 1 rfl kint HWB.out Try.underlying68 (by simp only [maxLen]; omega) true
        rw [eh_not (by simp; omega), eh_cons] at hN
        refine wpOp_step rfl (fun K hK => ?_)
        go_simp
        exact hK _ _ ⟨_, _, _, _, _, _, _, _, _, _, rfl, (by first | exact p1 | exact fun _ => rfl), (by first | exact p2 | exact fun _ => rfl), (by first | exact p4 | exact fun _ => rfl), (by first | exact p5 | exact fun _ => rfl), (by first | exact p6 | exact fun _ => rfl), (by first | exact p7 | exact fun _ => rfl), (by first | exact p8 | exact fun _ => rfl), (by simp [h10]), (by simp [h11]), (by simpa using q2), (by simpa using q3), (by simpa using q5), (by simpa using q7), (by simpa using q8), (by simp [he]), (by simp [h10]), (by simp [h11]), (by rw [if_pos (by simpa using hj), if_pos (by simp)]; exact ⟨_, rfl, hN⟩)⟩
      · rw [if_neg hj, if_neg (by simp [hi]), if_pos t0] at hS
        obtain ⟨gm, rfl, hS⟩ := hS
        obtain ⟨w5, hrun, hsz, hN⟩ := hS.store 1 rfl kint HWB.out Try.underlying68 (by simp only [maxLen]; omega) true
        rw [eh_no (ra + rm), eh_one] at hN
        refine wpOp_step rfl (fun K hK => ?_)
        go_simp
        exact hK _ _ ⟨_, _, _, _, _, _, _, _, _, _, rfl, (by first | exact p1 | exact fun _ => rfl), (by first | exact p2 | exact fun _ => rfl), (by first | exact p4 | exact fun _ => rfl), (by first | exact p5 | exact fun _ => rfl), (by first | exact p6 | exact fun _ => rfl), (by first | exact p7 | exact fun _ => rfl), (by first | exact p8 | exact fun _ => rfl), (by simp [h10]), (by simp [h11]), (by simpa using q2), (by simpa using q3), (by simpa using q5), (by simpa using q7), (by simpa using q8), (by simp [he]), (by simp [h10]), (by simp [h11]), (by rw [if_neg (by simpa using hj), if_pos (by simp)]; exact ⟨_, rfl, hN⟩)⟩
    · have h11 : L 11 = false := by cases hh : L 11 with | false => rfl | true => (have hq := q11 hh; simp [hi] at hq)
      obtain rfl := p1 (by simp [he])
      obtain rfl := p2 (by simp [he])
      obtain rfl := p4 (by simp [he])
      obtain rfl := p5 (by simp [he])
      obtain rfl := p6 (by simp [he])
      obtain rfl := p7 (by simp [he])
      obtain rfl := p8 (by simp [he])
      refine wpOp_step rfl (fun K hK => ?_)
      go_simp
      exact hK _ _ ⟨_, _, _, _, _, _, _, _, _, _, rfl, (by first | exact p1 | exact fun _ => rfl), (by first | exact p2 | exact fun _ => rfl), (by first | exact p4 | exact fun _ => rfl), (by first | exact p5 | exact fun _ => rfl), (by first | exact p6 | exact fun _ => rfl), (by first | exact p7 | exact fun _ => rfl), (by first | exact p8 | exact fun _ => rfl), (fun _ => rfl), (by simp [h11]), (by simpa using q2), (by simpa using q3), (by simpa using q5), (by simpa using q7), (by simpa using q8), (by simpa using q9), (by simp [he]), (by simp [h11]), (by simpa [h11] using hS)⟩
    · obtain rfl := p10 (by simp [he])
      refine wpOp_step rfl (fun K hK => ?_)
      go_simp
      exact hK _ _ ⟨_, _, _, _, _, _, _, _, _, _, rfl, (by first | exact p1 | exact fun _ => rfl), (by first | exact p2 | exact fun _ => rfl), (by first | exact p4 | exact fun _ => rfl), (by first | exact p5 | exact fun _ => rfl), (by first | exact p6 | exact fun _ => rfl), (by first | exact p7 | exact fun _ => rfl), (by first | exact p8 | exact fun _ => rfl), (by first | exact p10 | exact fun _ => rfl), (fun _ => rfl), (by simpa using q2), (by simpa using q3), (by simpa using q5), (by simpa using q7), (by simpa using q8), (by simpa using q9), (by simpa using q10), (by simp [he]), (by simpa using hS)⟩
  · rintro L ac w' ⟨x8, x20, x21, x22, x23, x24, x25, x26, x27, x28, ha, p1, p2, p4, p5, p6, p7, p8, p10, p11, q2, q3, q5, q7, q8, q9, q10, q11, hS⟩ hall
    have t0 := hall 0 (by decide)
    have t3 := hall 3 (by decide)
    have t9 := hall 9 (by decide)
    rw [if_pos t3, if_pos t9] at hS
    obtain ⟨gm, rfl, hS⟩ := hS
    obtain rfl := p1 (hall 1 (by decide))
    obtain rfl := p2 (hall 2 (by decide))
    obtain rfl := p4 (hall 4 (by decide))
    obtain rfl := p5 (hall 5 (by decide))
    obtain rfl := p6 (hall 6 (by decide))
    obtain rfl := p7 (hall 7 (by decide))
    obtain rfl := p8 (hall 8 (by decide))
    obtain rfl := p10 (hall 10 (by decide))
    obtain rfl := p11 (hall 11 (by decide))
    simp only [turn, List.foldl_cons, List.foldl_nil, List.setIfInBounds_toArray, List.set_cons_succ, List.set_cons_zero] at ha
    subst ha
    clear q2 q3 q5 q7 q8 q9 q10 q11  t0 t3 t9
    have HS1 := Lib.hid hS
    clear hS
    clear hwr
    go_wp2
    go_loopg [31] n (fun g i wr => ∃ (k q : Nat), k ≤ n ∧ g = n - k ∧ i = .int .i64 (k : Int) ∧ q ≤ 2 * k + 2 ∧ Sep w wr [.cells gr 50 [.int .i64 ra, .int .i64 rd, .int .i64 rm], bm gm q (eh (Eof ⟨ra, rd, rm⟩ (l.take k)))])
    case atStart => exact ⟨0, 2, Nat.zero_le _, rfl, rfl, Nat.le_refl _, HS1.out⟩
    case round =>
      clear HS1
      obtain ⟨k, q, hk, rfl, rfl, hq, hs⟩ := hrel
      have HS := Lib.hid hs
      clear hs
      by_cases hlt : k < n
      · obtain ⟨b, off, rfl, hb, hc⟩ := HR.out.at_ R.len (by omega)
        obtain ⟨x, hx⟩ : ∃ x, l[k]? = some x := ⟨_, List.getElem?_eq_getElem (by rw [HL.out]; exact hlt)⟩
        obtain ⟨d0, d1, d2⟩ := R.facts hb HS.out.below hc hx
        obtain ⟨z1, z2, z3, z4, z5, z6⟩ := HSM.out x (List.mem_of_getElem? hx)
        have HX := Lib.hid (Eof_take (r := ⟨ra, rd, rm⟩) hx)
        have i0 : (0 : Int) ≤ (k : Int) := by omega
        have i1 : (k : Int) < (n : Int) := by omega
        have HS1 : Hid (Sep w (wr.alloc (.cells #[.int .i64 x.at_, .int .i64 x.disk, .int .i64 x.many] 50)) [.cells gr 50 [.int .i64 ra, .int .i64 rd, .int .i64 rm], bm gm q (eh (Eof ⟨ra, rd, rm⟩ (l.take k))), .cells wr.heap.size 50 [.int .i64 x.at_, .int .i64 x.disk, .int .i64 x.many]]) := Lib.hid (HS.out.new 50 x.cells)
        clear hc hx
        obtain ⟨xa, xd, xm⟩ := x
        simp only at d0 d1 d2 z1 z2 z3 z4 z5 z6 HS1 HX
        have HXA : Hid ((Lit.int .i64 xa).wf = true) := Lib.hid (WalkArith.wf_i64 (by omega))
        have HXB : Hid ((Lit.int .i64 (xa + xm)).wf = true) := Lib.hid (WalkArith.wf_i64 (by omega))
        have hwr : IntKind.i64.wrap (xa + xm) = xa + xm := IntWalk.i64_in _ ⟨by omega, by omega⟩
        generalize Eof ⟨ra, rd, rm⟩ (l.take k) = E at HX HS1 HS
        go_upto_region 5 with (fail)
        generalize wr.alloc (.cells #[.int .i64 xa, .int .i64 xd, .int .i64 xm] 50) = wo at HS1 ⊢
        generalize wr.heap.size = gx at HS1 ⊢
        clear HS d0 d1 d2
        refine wp_region_inv0 (fun ac0 L ac w' => ∃ x35 x36 x37 x38 x39 x40 x41 x42 x43, ac = turn ac0 [(35, x35), (36, x36), (37, x37), (38, x38), (39, x39), (40, x40), (41, x41), (42, x42), (43, x43)] ∧ (L 0 = true → x35 = .map (some gm)) ∧ (L 1 = true → x36 = .pointer (some ⟨gx, 0, none⟩)) ∧ (L 2 = true → x37 = .int .i64 xa) ∧ (L 3 = true → x38 = .map (some gm)) ∧ (L 4 = true → x39 = .pointer (some ⟨gx, 0, none⟩)) ∧ (L 5 = true → x40 = .int .i64 xa) ∧ (L 6 = true → x41 = .pointer (some ⟨gx, 2, none⟩)) ∧ (L 7 = true → x42 = .int .i64 xm) ∧ (L 8 = true → x43 = .int .i64 (xa + xm)) ∧ (L 2 = true → L 1 = true) ∧ (L 5 = true → L 4 = true) ∧ (L 7 = true → L 6 = true) ∧ (L 8 = true → L 5 = true ∧ L 7 = true) ∧ (L 9 = true → L 0 = true ∧ L 1 = true ∧ L 2 = true) ∧ (L 10 = true → L 0 = true ∧ L 1 = true ∧ L 2 = true ∧ L 3 = true ∧ L 4 = true ∧ L 5 = true ∧ L 6 = true ∧ L 7 = true ∧ L 8 = true ∧ L 9 = true) ∧ (if L 10 = true then (∃ q1, q1 ≤ q + 2 ∧ Sep w w' [.cells gr 50 [.int .i64 ra, .int .i64 rd, .int .i64 rm], bm gm q1 (eh ((xa + xm) :: xa :: E)), .cells gx 50 [.int .i64 xa, .int .i64 xd, .int .i64 xm]]) else (if L 9 = true then (∃ q1, q1 ≤ q + 1 ∧ Sep w w' [.cells gr 50 [.int .i64 ra, .int .i64 rd, .int .i64 rm], bm gm q1 (eh (xa :: E)), .cells gx 50 [.int .i64 xa, .int .i64 xd, .int .i64 xm]]) else Sep w w' [.cells gr 50 [.int .i64 ra, .int .i64 rd, .int .i64 rm], bm gm q (eh E), .cells gx 50 [.int .i64 xa, .int .i64 xd, .int .i64 xm]]))) rfl (by kernel_rfl) ?_ ?_ ?_
        · simp only [turn, List.foldl_cons, List.foldl_nil, List.setIfInBounds_toArray, List.set_cons_succ, List.set_cons_zero]
          exact ⟨_, _, _, _, _, _, _, _, _, rfl, (fun h => absurd h (by decide)), (fun h => absurd h (by decide)), (fun h => absurd h (by decide)), (fun h => absurd h (by decide)), (fun h => absurd h (by decide)), (fun h => absurd h (by decide)), (fun h => absurd h (by decide)), (fun h => absurd h (by decide)), (fun h => absurd h (by decide)), (fun h => absurd h (by decide)), (fun h => absurd h (by decide)), (fun h => absurd h (by decide)), (fun h => absurd h (by decide)), (fun h => absurd h (by decide)), (fun h => absurd h (by decide)), by simpa using HS1.out.drew⟩
        · rintro L ac w' i o ⟨x35, x36, x37, x38, x39, x40, x41, x42, x43, ha, p0, p1, p2, p3, p4, p5, p6, p7, p8, q2, q5, q7, q8, q9, q10, hS⟩ ho hi he
          simp only [turn, List.foldl_cons, List.foldl_nil, List.setIfInBounds_toArray, List.set_cons_succ, List.set_cons_zero] at ha ⊢
          subst ha
          rcases i with _|_|_|_|_|_|_|_|_|_|_|i
          all_goals cases ho
          all_goals simp [Region.binds] at he
          · have h9 : L 9 = false := by cases hh : L 9 with | false => rfl | true => (have hq := q9 hh; simp [hi] at hq)
            have h10 : L 10 = false := by cases hh : L 10 with | false => rfl | true => (have hq := q10 hh; simp [hi] at hq)
            refine wpOp_step rfl (fun K hK => ?_)
            go_simp
            exact hK _ _ ⟨_, _, _, _, _, _, _, _, _, rfl, (fun _ => rfl), (by first | exact p1 | exact fun _ => rfl), (by first | exact p2 | exact fun _ => rfl), (by first | exact p3 | exact fun _ => rfl), (by first | exact p4 | exact fun _ => rfl), (by first | exact p5 | exact fun _ => rfl), (by first | exact p6 | exact fun _ => rfl), (by first | exact p7 | exact fun _ => rfl), (by first | exact p8 | exact fun _ => rfl), (by simpa using q2), (by simpa using q5), (by simpa using q7), (by simpa using q8), (by simp [h9]), (by simp [h10]), (by simpa [h9, h10] using hS)⟩
          · have h2 : L 2 = false := by cases hh : L 2 with | false => rfl | true => (have hq := q2 hh; simp [hi] at hq)
            have h9 : L 9 = false := by cases hh : L 9 with | false => rfl | true => (have hq := q9 hh; simp [hi] at hq)
            have h10 : L 10 = false := by cases hh : L 10 with | false => rfl | true => (have hq := q10 hh; simp [hi] at hq)
            refine wpOp_step rfl (fun K hK => ?_)
            go_simp
            exact hK _ _ ⟨_, _, _, _, _, _, _, _, _, rfl, (by first | exact p0 | exact fun _ => rfl), (fun _ => rfl), (by simp [h2]), (by first | exact p3 | exact fun _ => rfl), (by first | exact p4 | exact fun _ => rfl), (by first | exact p5 | exact fun _ => rfl), (by first | exact p6 | exact fun _ => rfl), (by first | exact p7 | exact fun _ => rfl), (by first | exact p8 | exact fun _ => rfl), (by simp [h2]), (by simpa using q5), (by simpa using q7), (by simpa using q8), (by simp [h9]), (by simp [h10]), (by simpa [h2, h9, h10] using hS)⟩
          · have h9 : L 9 = false := by cases hh : L 9 with | false => rfl | true => (have hq := q9 hh; simp [hi] at hq)
            have h10 : L 10 = false := by cases hh : L 10 with | false => rfl | true => (have hq := q10 hh; simp [hi] at hq)
            obtain rfl := p1 (by simp [he])
            have f0 : w'.cell? ⟨gx, 0, none⟩ = some (.int .i64 xa) := by
              repeat' split at hS
              all_goals first
                | exact hS.elim fun _ h => h.2.cell 2 rfl rfl
                | exact hS.cell 2 rfl rfl
            refine wpOp_step rfl (fun K hK => ?_)
            go_simp
            exact hK _ _ ⟨_, _, _, _, _, _, _, _, _, rfl, (by first | exact p0 | exact fun _ => rfl), (by first | exact p1 | exact fun _ => rfl), (fun _ => rfl), (by first | exact p3 | exact fun _ => rfl), (by first | exact p4 | exact fun _ => rfl), (by first | exact p5 | exact fun _ => rfl), (by first | exact p6 | exact fun _ => rfl), (by first | exact p7 | exact fun _ => rfl), (by first | exact p8 | exact fun _ => rfl), (by simp [he]), (by simpa using q5), (by simpa using q7), (by simpa using q8), (by simp [h9]), (by simp [h10]), (by simpa [h9, h10] using hS)⟩
          · have h10 : L 10 = false := by cases hh : L 10 with | false => rfl | true => (have hq := q10 hh; simp [hi] at hq)
            refine wpOp_step rfl (fun K hK => ?_)
            go_simp
            exact hK _ _ ⟨_, _, _, _, _, _, _, _, _, rfl, (by first | exact p0 | exact fun _ => rfl), (by first | exact p1 | exact fun _ => rfl), (by first | exact p2 | exact fun _ => rfl), (fun _ => rfl), (by first | exact p4 | exact fun _ => rfl), (by first | exact p5 | exact fun _ => rfl), (by first | exact p6 | exact fun _ => rfl), (by first | exact p7 | exact fun _ => rfl), (by first | exact p8 | exact fun _ => rfl), (by simpa using q2), (by simpa using q5), (by simpa using q7), (by simpa using q8), (by simpa using q9), (by simp [h10]), (by simpa [h10] using hS)⟩
          · have h5 : L 5 = false := by cases hh : L 5 with | false => rfl | true => (have hq := q5 hh; simp [hi] at hq)
            have h10 : L 10 = false := by cases hh : L 10 with | false => rfl | true => (have hq := q10 hh; simp [hi] at hq)
            have h8 : L 8 = false := by cases hh : L 8 with | false => rfl | true => (have hq := q8 hh; simp [h5] at hq)
            refine wpOp_step rfl (fun K hK => ?_)
            go_simp
            exact hK _ _ ⟨_, _, _, _, _, _, _, _, _, rfl, (by first | exact p0 | exact fun _ => rfl), (by first | exact p1 | exact fun _ => rfl), (by first | exact p2 | exact fun _ => rfl), (by first | exact p3 | exact fun _ => rfl), (fun _ => rfl), (by simp [h5]), (by first | exact p6 | exact fun _ => rfl), (by first | exact p7 | exact fun _ => rfl), (by simp [h8]), (by simpa using q2), (by simp [h5]), (by simpa using q7), (by simp [h8]), (by simpa using q9), (by simp [h10]), (by simpa [h5, h10, h8] using hS)⟩
          · have h8 : L 8 = false := by cases hh : L 8 with | false => rfl | true => (have hq := q8 hh; simp [hi] at hq)
            have h10 : L 10 = false := by cases hh : L 10 with | false => rfl | true => (have hq := q10 hh; simp [hi] at hq)
            obtain rfl := p4 (by simp [he])
            have f0 : w'.cell? ⟨gx, 0, none⟩ = some (.int .i64 xa) := by
              repeat' split at hS
              all_goals first
                | exact hS.elim fun _ h => h.2.cell 2 rfl rfl
                | exact hS.cell 2 rfl rfl
            refine wpOp_step rfl (fun K hK => ?_)
            go_simp
            exact hK _ _ ⟨_, _, _, _, _, _, _, _, _, rfl, (by first | exact p0 | exact fun _ => rfl), (by first | exact p1 | exact fun _ => rfl), (by first | exact p2 | exact fun _ => rfl), (by first | exact p3 | exact fun _ => rfl), (by first | exact p4 | exact fun _ => rfl), (fun _ => rfl), (by first | exact p6 | exact fun _ => rfl), (by first | exact p7 | exact fun _ => rfl), (by simp [h8]), (by simpa using q2), (by simp [he]), (by simpa using q7), (by simp [h8]), (by simpa using q9), (by simp [h10]), (by simpa [h8, h10] using hS)⟩
          · have h7 : L 7 = false := by cases hh : L 7 with | false => rfl | true => (have hq := q7 hh; simp [hi] at hq)
            have h10 : L 10 = false := by cases hh : L 10 with | false => rfl | true => (have hq := q10 hh; simp [hi] at hq)
            have h8 : L 8 = false := by cases hh : L 8 with | false => rfl | true => (have hq := q8 hh; simp [h7] at hq)
            refine wpOp_step rfl (fun K hK => ?_)
            go_simp
            exact hK _ _ ⟨_, _, _, _, _, _, _, _, _, rfl, (by first | exact p0 | exact fun _ => rfl), (by first | exact p1 | exact fun _ => rfl), (by first | exact p2 | exact fun _ => rfl), (by first | exact p3 | exact fun _ => rfl), (by first | exact p4 | exact fun _ => rfl), (by first | exact p5 | exact fun _ => rfl), (fun _ => rfl), (by simp [h7]), (by simp [h8]), (by simpa using q2), (by simpa using q5), (by simp [h7]), (by simp [h8]), (by simpa using q9), (by simp [h10]), (by simpa [h7, h10, h8] using hS)⟩
          · have h8 : L 8 = false := by cases hh : L 8 with | false => rfl | true => (have hq := q8 hh; simp [hi] at hq)
            have h10 : L 10 = false := by cases hh : L 10 with | false => rfl | true => (have hq := q10 hh; simp [hi] at hq)
            obtain rfl := p6 (by simp [he])
            have f0 : w'.cell? ⟨gx, 2, none⟩ = some (.int .i64 xm) := by
              repeat' split at hS
              all_goals first
                | exact hS.elim fun _ h => h.2.cell 2 rfl rfl
                | exact hS.cell 2 rfl rfl
            refine wpOp_step rfl (fun K hK => ?_)
            go_simp
            exact hK _ _ ⟨_, _, _, _, _, _, _, _, _, rfl, (by first | exact p0 | exact fun _ => rfl), (by first | exact p1 | exact fun _ => rfl), (by first | exact p2 | exact fun _ => rfl), (by first | exact p3 | exact fun _ => rfl), (by first | exact p4 | exact fun _ => rfl), (by first | exact p5 | exact fun _ => rfl), (by first | exact p6 | exact fun _ => rfl), (fun _ => rfl), (by simp [h8]), (by simpa using q2), (by simpa using q5), (by simp [he]), (by simp [h8]), (by simpa using q9), (by simp [h10]), (by simpa [h8, h10] using hS)⟩
          · have h10 : L 10 = false := by cases hh : L 10 with | false => rfl | true => (have hq := q10 hh; simp [hi] at hq)
            obtain rfl := p5 (by simp [he])
            obtain rfl := p7 (by simp [he])
            refine wpOp_step rfl (fun K hK => ?_)
            go_simp
            exact hK _ _ ⟨_, _, _, _, _, _, _, _, _, rfl, (by first | exact p0 | exact fun _ => rfl), (by first | exact p1 | exact fun _ => rfl), (by first | exact p2 | exact fun _ => rfl), (by first | exact p3 | exact fun _ => rfl), (by first | exact p4 | exact fun _ => rfl), (by first | exact p5 | exact fun _ => rfl), (by first | exact p6 | exact fun _ => rfl), (by first | exact p7 | exact fun _ => rfl), (fun _ => rfl), (by simpa using q2), (by simpa using q5), (by simpa using q7), (by simp [he]), (by simpa using q9), (by simp [h10]), (by simpa [h10] using hS)⟩
          · have h10 : L 10 = false := by cases hh : L 10 with | false => rfl | true => (have hq := q10 hh; simp [hi] at hq)
            obtain rfl := p0 (by simp [he])
            obtain rfl := p2 (by simp [he])
            rw [if_neg (by simp [h10]), if_neg (by simp [hi])] at hS
            obtain ⟨w5, hrun, hsz, hN⟩ := hS.store 1 rfl kint HXA.out Try.underlying68 (by simp only [maxLen]; omega) true
            rw [eh_cons] at hN
            have hle : (if (eh E xa).isSome = true then q else q + 1) ≤ q + 1 := by split <;> omega
            refine wpOp_step rfl (fun K hK => ?_)
            go_simp
            exact hK _ _ ⟨_, _, _, _, _, _, _, _, _, rfl, (by first | exact p0 | exact fun _ => rfl), (by first | exact p1 | exact fun _ => rfl), (by first | exact p2 | exact fun _ => rfl), (by first | exact p3 | exact fun _ => rfl), (by first | exact p4 | exact fun _ => rfl), (by first | exact p5 | exact fun _ => rfl), (by first | exact p6 | exact fun _ => rfl), (by first | exact p7 | exact fun _ => rfl), (by first | exact p8 | exact fun _ => rfl), (by simpa using q2), (by simpa using q5), (by simpa using q7), (by simpa using q8), (by simp [he]), (by simp [h10]), (by rw [if_neg (by simp [h10]), if_pos (by simp)]; exact ⟨_, hle, hN⟩)⟩
          · obtain rfl := p3 (by simp [he])
            obtain rfl := p8 (by simp [he])
            have t9 : L 9 = true := by simp [he]
            rw [if_neg (by simp [hi]), if_pos t9] at hS
            obtain ⟨q1, hq1, hS⟩ := hS
            obtain ⟨w5, hrun, hsz, hN⟩ := hS.store 1 rfl kint HXB.out Try.underlying68 (by simp only [maxLen]; omega) true
            rw [eh_cons] at hN
            have hle : (if (eh (xa :: E) (xa + xm)).isSome = true then q1 else q1 + 1) ≤ q + 2 := by split <;> omega
            refine wpOp_step rfl (fun K hK => ?_)
            go_simp
            exact hK _ _ ⟨_, _, _, _, _, _, _, _, _, rfl, (by first | exact p0 | exact fun _ => rfl), (by first | exact p1 | exact fun _ => rfl), (by first | exact p2 | exact fun _ => rfl), (by first | exact p3 | exact fun _ => rfl), (by first | exact p4 | exact fun _ => rfl), (by first | exact p5 | exact fun _ => rfl), (by first | exact p6 | exact fun _ => rfl), (by first | exact p7 | exact fun _ => rfl), (by first | exact p8 | exact fun _ => rfl), (by simpa using q2), (by simpa using q5), (by simpa using q7), (by simpa using q8), (by simpa using q9), (by simp [he]), (by rw [if_pos (by simp)]; exact ⟨_, hle, hN⟩)⟩
        · rintro L ac w' ⟨x35, x36, x37, x38, x39, x40, x41, x42, x43, ha, p0, p1, p2, p3, p4, p5, p6, p7, p8, q2, q5, q7, q8, q9, q10, hS⟩ hall
          have t9 := hall 9 (by decide)
          have t10 := hall 10 (by decide)
          rw [if_pos t10] at hS
          obtain ⟨q1, hq1, hS⟩ := hS
          obtain rfl := p0 (hall 0 (by decide))
          obtain rfl := p1 (hall 1 (by decide))
          obtain rfl := p2 (hall 2 (by decide))
          obtain rfl := p3 (hall 3 (by decide))
          obtain rfl := p4 (hall 4 (by decide))
          obtain rfl := p5 (hall 5 (by decide))
          obtain rfl := p6 (hall 6 (by decide))
          obtain rfl := p7 (hall 7 (by decide))
          obtain rfl := p8 (hall 8 (by decide))
          simp only [turn, List.foldl_cons, List.foldl_nil, List.setIfInBounds_toArray, List.set_cons_succ, List.set_cons_zero] at ha
          subst ha
          clear q2 q5 q7 q8 q9 q10  t9 t10
          have HS2 := Lib.hid (hS.pick [0, 1] (by decide) (by simp))
          clear hS
          go_wp2
          go_roundg (n - (k + 1))
          case measure => omega
          case rel => exact ⟨k + 1, q1, by omega, rfl, by go_num, by omega, by rw [HX.out]; exact HS2.out⟩
      · obtain rfl : k = n := by omega
        have hall : l.take k = l := List.take_of_length_le (by rw [HL.out]; omega)
        rw [hall] at HS
        obtain ⟨E, HE⟩ : ∃ E, Hid (E = Eof ⟨ra, rd, rm⟩ l) := ⟨_, Lib.hid rfl⟩
        rw [← HE.out] at HS
        have HEB : Hid (∀ y ∈ E, 0 ≤ y ∧ y ≤ 2199023255552) := Lib.hid (fun y hy => by
          rw [HE.out] at hy
          rcases mem_Eof.1 hy with (h | h) | ⟨x, hx, h | h⟩
          · simp only at h; omega
          · simp only at h; omega
          · obtain ⟨z1, z2, z3, z4, z5, z6⟩ := HSM.out x hx; omega
          · obtain ⟨z1, z2, z3, z4, z5, z6⟩ := HSM.out x hx; omega)
        obtain ⟨es, clock, M, H1⟩ := (HS.out.nilRow 50 3 none).mapOpen 1 rfl
        have HM := Lib.hid M
        obtain ⟨hrun, H2, todo0, R0, htl, hmem⟩ := H1.rangeStart 1 rfl M kint Try.underlying68
        have HR0 := Lib.hid R0
        have HT0 : Hid (∀ x, x ∈ todo0 ↔ x ∈ E) := Lib.hid (fun x => (hmem x).trans eh_some)
        have HA0 : Hid (Acc E (dkf put ⟨ra, rd, rm⟩ l) todo0 []) := Lib.hid ⟨fun x => ⟨fun h => by simp at h, fun h => absurd ((HT0.out _).2 h.1.1) h.2⟩, by simp⟩
        have HS2 : Hid (Sep w (wr.alloc (.mapIter (some gm) clock #[] clock)) [.cells gr 50 [.int .i64 ra, .int .i64 rd, .int .i64 rm], .obj gm (.map es clock), .row 50 3 (.slice none 0 0) 0 (([] : List R).flatMap R.cells), .obj wr.heap.size (.mapIter (some gm) clock #[] clock)]) := Lib.hid H2
        clear M H1 H2 R0 hmem HS
        go_wp2
        clear hrun
        generalize wr.alloc (.mapIter (some gm) clock #[] clock) = wo at HS2 ⊢
        generalize wr.heap.size = r1 at HS2 ⊢
        go_loopg [11] q (fun g v11 wl => ∃ (todo : List Int) (seen : Array Nat) (c0 : Nat) (acc : List R) (A11 : Option Addr) (c11 : Nat), g = todo.length ∧ v11 = .slice A11 acc.length c11 ∧ acc.length ≤ c11 ∧ acc.length + todo.length ≤ q ∧ Hid (Rg (Value.int .i64) es clock clock seen c0 todo) ∧ Hid (Acc E (dkf put ⟨ra, rd, rm⟩ l) todo acc) ∧
          Sep w wl [.cells gr 50 [.int .i64 ra, .int .i64 rd, .int .i64 rm], .obj gm (.map es clock), .row 50 3 (.slice A11 acc.length c11) acc.length (acc.flatMap R.cells), .obj r1 (.mapIter (some gm) clock seen c0)])
        case atStart => exact ⟨todo0, #[], clock, [], none, 0, htl.symm, rfl, Nat.le_refl _, by simp [htl], HR0, HA0, HS2.out⟩
        case round =>
          clear HS2 HA0 HT0 HR0 htl
          obtain ⟨todo, seen, c0, acc, A11, c11, rfl, rfl, hc11, hbd, HRG, HACC, hs⟩ := hrel
          have HS := Lib.hid hs
          clear hs
          rcases HS.out.rangeNext 1 3 (by decide) rfl rfl HM.out kint HRG.out 0 with ⟨rfl, hrun⟩ | ⟨x, a, w2, seen', hx, hxa, hrun, hsz, H2, HRG2, hen⟩
          · obtain ⟨hjoin, hall2⟩ := mlist_plain HACC.out HNF.out (by rw [HE.out]; exact HEC.out) (by rw [HE.out]; exact HFN.out)
            have hbq : ∀ q ∈ Srt.isort ltR acc.length acc, Bq q := fun q hq => by
              obtain ⟨a1, a2, a3, a4, a5, a6⟩ := hall2 q hq
              have b1 := HEB.out _ a1
              have b2 := HEB.out _ a2
              have hdb : q.disk ≤ 4398046511104 := by
                rw [← a5]
                unfold dkf
                split
                · rename_i hc
                  simp only at hc
                  split
                  · simp only; omega
                  · omega
                · unfold mfindL
                  cases hf : findL q.at_ l with
                  | none => simp
                  | some d =>
                    have := findL_range HSM.out hf
                    simp only [Option.getD_some]
                    omega
              unfold Bq
              omega
            obtain ⟨P, hP⟩ : ∃ P, P = Srt.isort ltR acc.length acc := ⟨_, rfl⟩
            rw [← hP] at hjoin hbq
            have HP := Lib.hid hP
            have HJ := Lib.hid hjoin
            have HBQ := Lib.hid hbq
            have HSR := Lib.hid (HS.out.pick [2] (by decide) (by simp))
            have hqn : acc.length ≤ 2199023255556 := by omega
            obtain ⟨N, hN⟩ : ∃ N, N = acc.length := ⟨_, rfl⟩
            have HN := Lib.hid hN
            have HS2 : Hid (Sep w wr [.row 50 3 (.slice A11 N c11) N (acc.flatMap R.cells)]) := Lib.hid (by rw [hN]; exact HSR.out)
            rw [← hN] at hc11 hqn ⊢
            clear hP hjoin hbq hall2 HACC HRG HS HSR hN hbd
            obtain ⟨wo, rfl⟩ : ∃ wo : World, wo = wr := ⟨_, rfl⟩
            go_wp2
            clear hrun
            go_loopg [105] N (fun g i wr => ∃ (a : Nat), a ≤ N ∧ g = N - a ∧ i = .int .i64 a ∧ Sep w wr [.row 50 3 (.slice A11 N c11) N ((Srt.isort ltR a acc).flatMap R.cells)])
            case atStart => exact ⟨0, Nat.zero_le _, rfl, rfl, HS2.out⟩
            case round =>
              clear HS2
              obtain ⟨a, ha, rfl, rfl, hs⟩ := hrel
              have HS := Lib.hid hs
              clear hs
              by_cases hlt : a < N
              · obtain ⟨wo, rfl⟩ : ∃ wo : World, wo = wr := ⟨_, rfl⟩
                go_wp2
                go_loopg [17] a (fun g i wr => ∃ (cur : List R), g ≤ a ∧ i = .int .i64 (g : Int) ∧ cur.length = N ∧ Hid (Srt.sink ltR g cur = Srt.isort ltR (a + 1) acc) ∧ Sep w wr [.row 50 3 (.slice A11 N c11) N (cur.flatMap R.cells)])
                case atStart => exact ⟨Srt.isort ltR a acc, Nat.le_refl _, rfl, by rw [Srt.isort_len, HN.out], Lib.hid rfl, HS.out⟩
                case round =>
                  clear HS
                  obtain ⟨cur, hg, rfl, hcl, HK, hs⟩ := hrel
                  have HS := Lib.hid hs
                  have HCL := Lib.hid hcl
                  clear hs hcl
                  rcases Nat.eq_zero_or_pos gk with h0 | hpos
                  · subst h0
                    go_wp2
                    go_quiet (fail)
                    go_wp2
                    generalize hxw : World.drewN wr _ = xw
                    have xh : Below wr.heap.size wr xw := by rw [← hxw]; exact below_drewN (Below.refl _ _) _
                    clear hxw
                    go_roundg (N - (a + 1))
                    case measure => omega
                    case rel => exact ⟨a + 1, by omega, rfl, by go_num, by rw [← HK.out]; exact HS.out.later xh⟩
                  · obtain ⟨m, rfl⟩ : ∃ m, gk = m + 1 := ⟨gk - 1, by omega⟩
                    clear hpos
                    have hcl := HCL.out
                    obtain ⟨x, hx⟩ : ∃ x, cur[m + 1]? = some x := ⟨_, List.getElem?_eq_getElem (by omega)⟩
                    obtain ⟨y, hy⟩ : ∃ y, cur[m]? = some y := ⟨_, List.getElem?_eq_getElem (by omega)⟩
                    obtain ⟨p0, p1, p2⟩ := R.rowCells hx
                    obtain ⟨q0, q1, q2⟩ := R.rowCells hy
                    obtain ⟨g6, rfl, hg6, hat⟩ := HS.out.rowAt 0 rfl (by omega)
                    have d0 := (hat _).1 _ p0
                    have e0 := (hat _).1 _ q0
                    have i0 : (0 : Int) ≤ (m : Int) := by omega
                    have i1 : (m : Int) < (N : Int) := by omega
                    have i2 : (0 : Int) < ((m + 1 : Nat) : Int) := by omega
                    have i3 : ((m + 1 : Nat) : Int) - 1 = (m : Int) := by omega
                    have i4 : ((m + 1 : Nat) : Int) < (N : Int) := by omega
                    clear hat
                    by_cases hk : x.at_ < y.at_
                    · have HKN := Lib.hid ((Srt.sink_go ltR hx hy (decide_eq_true hk)).symm.trans HK.out)
                      go_wp2
                      go_quiet (fail)
                      go_wp2
                      clear d0 e0
                      generalize hxw : World.drewN wr _ = xw
                      have xh : Below wr.heap.size wr xw := by rw [← hxw]; exact below_drewN (Below.refl _ _) _
                      clear hxw
                      have HSx := Lib.hid (HS.out.later xh)
                      obtain ⟨g', hg', _, hat⟩ := HSx.out.rowAt 0 rfl (by omega)
                      cases hg'
                      have d0 := (hat _).1 _ p0
                      have d1 := (hat _).1 _ p1
                      have d2 := (hat _).1 _ p2
                      have e0 := (hat _).1 _ q0
                      have e1 := (hat _).1 _ q1
                      have e2 := (hat _).1 _ q2
                      have u0 := (hat ((m + 1) * 3)).2.1
                      have u1 := (hat ((m + 1) * 3 + 1)).2.1
                      have u2 := (hat ((m + 1) * 3 + 2)).2.1
                      have u3 := (hat (m * 3)).2.1
                      have u4 := (hat (m * 3 + 1)).2.1
                      have u5 := (hat (m * 3 + 2)).2.1
                      have K := Lib.hid ((HSx.out.elem R.len 0 rfl (m + 1) (by omega) (by omega) y).elem R.len 0 rfl m (by simp; omega) (by omega) x)
                      clear hat HS HSx p0 p1 p2 q0 q1 q2 hx hy hcl xh
                      go_region
                      all_goals
                        go_wp2
                        go_roundg m
                        case measure => omega
                        case rel => exact ⟨(cur.set (m + 1) y).set m x, by omega, rfl, by simp [HCL.out], HKN, K.out.drew⟩
                    · have HKN := Lib.hid ((Srt.sink_stop ltR hx hy (decide_eq_false hk)).symm.trans HK.out)
                      clear p0 p1 p2 q0 q1 q2 hx hy hcl
                      go_wp2
                      go_quiet (fail)
                      go_wp2
                      generalize hxw : World.drewN wr _ = xw
                      have xh : Below wr.heap.size wr xw := by rw [← hxw]; exact below_drewN (Below.refl _ _) _
                      clear hxw
                      go_roundg (N - (a + 1))
                      case measure => omega
                      case rel => exact ⟨a + 1, by omega, rfl, by go_num, by rw [← HKN.out]; exact HS.out.later xh⟩
              · obtain rfl : a = N := by omega
                have hPe : Srt.isort ltR a acc = P := by rw [HP.out, HN.out]
                rw [hPe] at HS
                have hPl : P.length = a := by rw [HP.out, Srt.isort_len, HN.out]
                have HJ1 : Hid (Jn cl P 1) := Lib.hid (by rw [← HJ.out]; exact jn_start P)
                have HPL := Lib.hid hPl
                have hc11' : P.length ≤ c11 := by omega
                have HS2 : Hid (Sep w wr [.row 50 3 (.slice A11 P.length c11) P.length (P.flatMap R.cells)]) := Lib.hid (by rw [hPl]; exact HS.out)
                rw [← hPl]
                clear hPe hPl HS HP HN hlt ha
                go_wp2
                go_loopg [11, 18] P.length (fun g v11 v18 wl => ∃ (cur : List R) (N k : Nat), v11 = .slice A11 N c11 ∧ v18 = .int .i64 (k : Int) ∧ 1 ≤ k ∧ N = cur.length ∧ N ≤ c11 ∧ N ≤ 2199023255556 ∧ g = N + 1 - k ∧ Hid (Jn cl cur k) ∧ Hid (∀ q ∈ cur, Bq q) ∧ Sep w wl [.row 50 3 (.slice A11 N c11) N (cur.flatMap R.cells)])
                case atStart => exact ⟨P, P.length, 1, rfl, rfl, Nat.le_refl _, rfl, hc11', by have := HPL.out; omega, by omega, HJ1, HBQ, HS2.out⟩
                case round =>
                  clear HS2 HJ1
                  obtain ⟨cur, N, k, rfl, rfl, hk1, hNl, hNc, hNb, rfl, HJN, HB, hs⟩ := hrel
                  have HS := Lib.hid hs
                  have HNL := Lib.hid hNl
                  clear hs hNl
                  by_cases hkn : k < N
                  · obtain ⟨j, HKJ⟩ : ∃ j, Hid (k = j + 1) := ⟨k - 1, Lib.hid (by omega)⟩
                    have hnl := HNL.out
                    obtain ⟨p, hp⟩ : ∃ p, cur[j]? = some p := ⟨_, List.getElem?_eq_getElem (by have := HKJ.out; omega)⟩
                    obtain ⟨o, ho⟩ : ∃ o, cur[k]? = some o := ⟨_, List.getElem?_eq_getElem (by omega)⟩
                    have ho' : cur[j + 1]? = some o := by rw [← HKJ.out]; exact ho
                    obtain ⟨z1, z2, z3, z4, z5⟩ := HB.out p (List.mem_of_getElem? hp)
                    obtain ⟨y1, y2, y3, y4, y5⟩ := HB.out o (List.mem_of_getElem? ho)
                    obtain ⟨p0, p1, p2⟩ := R.rowCells hp
                    obtain ⟨o0, o1, o2⟩ := R.rowCells ho
                    obtain ⟨g6, rfl, hg6, hat⟩ := HS.out.rowAt 0 rfl (by omega)
                    have d0 := (hat _).1 _ p0
                    have d1 := (hat _).1 _ p1
                    have d2 := (hat _).1 _ p2
                    have i0 : (0 : Int) ≤ (j : Int) := by omega
                    have i1 : (k : Int) - 1 = (j : Int) := by have := HKJ.out; omega
                    have i2 : (j : Int) < (N : Int) := by have := HKJ.out; omega
                    have i3 : (0 : Int) ≤ (k : Int) := by omega
                    have i4 : (k : Int) < (N : Int) := by omega
                    have HO := Lib.hid o0
                    have HO1 := Lib.hid o1
                    have HO2 := Lib.hid o2
                    have HP2 := Lib.hid p2
                    have HPP := Lib.hid hp
                    have HOO := Lib.hid ho'
                    have HSa : Hid (Sep w (wr.alloc (.cells #[.int .i64 p.at_, .int .i64 p.disk, .int .i64 p.many] 50)) [.row 50 3 (.slice (some ⟨g6, 0, none⟩) N c11) N (cur.flatMap R.cells), .cells wr.heap.size 50 [.int .i64 p.at_, .int .i64 p.disk, .int .i64 p.many]]) := Lib.hid (HS.out.new 50 [.int .i64 p.at_, .int .i64 p.disk, .int .i64 p.many])
                    clear hat p0 p1 p2 o0 o1 o2 hp ho ho' hnl
                    go_upto_region 36 with (fail)
                    clear d0 d1 d2 HS
                    generalize wr.alloc (.cells #[.int .i64 p.at_, .int .i64 p.disk, .int .i64 p.many] 50) = wo at HSa ⊢
                    generalize wr.heap.size = gp at HSa ⊢
                    have f0 := fun zz : LaterOf wo => (HSa.out.later zz.h).cell 1 rfl (k := 0) rfl
                    have f1 := fun zz : LaterOf wo => (HSa.out.later zz.h).cell 1 rfl (k := 1) rfl
                    have f2 := fun zz : LaterOf wo => (HSa.out.later zz.h).cell 1 rfl (k := 2) rfl
                    have fo : ∀ zz : LaterOf wo, zz.w.cell? ⟨g6, k * 3, none⟩ = some (.int .i64 o.at_) ∧ zz.w.cell? ⟨g6, k * 3 + 1, none⟩ = some (.int .i64 o.disk) := fun zz => by
                      obtain ⟨g', hg', _, hat⟩ := (HSa.out.later zz.h).rowAt 0 rfl (by omega)
                      cases hg'
                      exact ⟨(hat _).1 _ HO.out, (hat _).1 _ HO1.out⟩
                    have fo0 := fun zz => (fo zz).1
                    have fo1 := fun zz => (fo zz).2
                    clear fo
                    by_cases c1 : p.at_ + p.many = o.at_
                    · have c1' : (p.at_ + p.many == o.at_) = true := by rw [c1]; exact beq_self_eq_true _
                      by_cases c2 : p.disk + p.many = o.disk
                      · have c2' : (p.disk + p.many == o.disk) = true := by rw [c2]; exact beq_self_eq_true _
                        obtain ⟨N3, HN3⟩ : ∃ N3, Hid (N = N3 + 1) := ⟨N - 1, Lib.hid (by omega)⟩
                        obtain ⟨k2, HK2⟩ : ∃ k2 : Nat, Hid (k2 = k + 1) := ⟨_, Lib.hid rfl⟩
                        obtain ⟨cur2, HC2⟩ : ∃ cur2, Hid (cur2 = cur.set j ⟨p.at_, p.disk, p.many + o.many⟩) := ⟨_, Lib.hid rfl⟩
                        obtain ⟨cur3, HC3⟩ : ∃ cur3, Hid (cur3 = cur2.take k ++ cur2.drop (k + 1)) := ⟨_, Lib.hid rfl⟩
                        have HJ2 : Hid (Jn cl cur3 k) := Lib.hid (by
                          rw [HC3.out, HC2.out, HKJ.out]
                          exact jn_join (by rw [← HKJ.out]; exact HJN.out) HPP.out HOO.out ⟨c1, c2⟩)
                        have HB3 : Hid (∀ q ∈ cur3, Bq q) := Lib.hid (fun q hq => by
                          rw [HC3.out, HC2.out] at hq
                          have hq2 : q ∈ cur.set j ⟨p.at_, p.disk, p.many + o.many⟩ := by
                            rcases List.mem_append.1 hq with h | h
                            · exact List.mem_of_mem_take h
                            · exact List.mem_of_mem_drop h
                          rcases List.mem_or_eq_of_mem_set hq2 with h | h
                          · exact HB.out q h
                          · rw [h]
                            exact bq_join ⟨z1, z2, z3, z4, z5⟩ ⟨y1, y2, y3, y4, y5⟩ ⟨c1, c2⟩)
                        have HL2 : Hid (cur2.length = N) := Lib.hid (by rw [HC2.out, List.length_set, HNL.out])
                        have HL3 : Hid (cur3.length = N3) := Lib.hid (by rw [HC3.out, List.length_append, List.length_take, List.length_drop, HL2.out]; have := HN3.out; omega)
                        clear c1 c2
                        refine wp_region_later (by kernel_rfl) (by kernel_rfl) ?_
                        repeat (go_big_quiet_step (fail))
                        refine wpQuiet_nil ?_; intro xw hw'; obtain ⟨xq, hw''⟩ := hw'; obtain ⟨xw0, xh⟩ := xq; change xw = xw0 at hw''; subst hw''
                        have HSb := Lib.hid ((HSa.out.later xh).pick [0] (by decide) (by simp))
                        clear f0 f1 f2 fo0 fo1 HSa xh
                        have g7 : ∀ zz : LaterOf xw, zz.w.cell? ⟨g6, j * 3 + 2, none⟩ = some (.int .i64 p.many) ∧ zz.w.cell? ⟨g6, k * 3 + 2, none⟩ = some (.int .i64 o.many) := fun zz => by
                          obtain ⟨g', hg', _, hat⟩ := (HSb.out.later zz.h).rowAt 0 rfl (by omega)
                          cases hg'
                          exact ⟨(hat _).1 _ HP2.out, (hat _).1 _ HO2.out⟩
                        have g70 := fun zz => (g7 zz).1
                        have g71 := fun zz => (g7 zz).2
                        clear g7
                        go_wp2
                        (refine wp_region_tail 14 (by kernel_rfl) (by kernel_rfl) ?_; simp only [List.take_succ_cons, List.take_zero, List.drop_succ_cons, List.drop_zero]; repeat (go_big_quiet_step (fail)))
                        clear g70 g71
                        refine wpQuiet_nil ?_; intro xv hw'; obtain ⟨xq, hw''⟩ := hw'; obtain ⟨xw0, xh⟩ := xq; change xv = xw0 at hw''; subst hw''
                        have HSc := HSb.out.later xh
                        obtain ⟨g', hg', _, hat⟩ := HSc.rowAt 0 rfl (by omega)
                        cases hg'
                        have d2 := (hat _).1 _ HP2.out
                        have u2 := (hat (j * 3 + 2)).2.1
                        have HS5 : Hid (Sep w (xv.setCell ⟨g6, j * 3 + 2, none⟩ (.int .i64 (p.many + o.many))) [.row 50 3 (.slice (some ⟨g6, 0, none⟩) N c11) N (cur2.flatMap R.cells)]) := Lib.hid (by
                          have := (hat (j * 3 + 2)).2.2 (.int .i64 (p.many + o.many))
                          rw [HC2.out, ← many_set HPP.out]
                          exact this)
                        clear hat HSc xh HSb
                        go_upto_region 38 with (fail)
                        clear d2 u2
                        generalize xv.setCell ⟨g6, j * 3 + 2, none⟩ (.int .i64 (p.many + o.many)) = wv at HS5 ⊢
                        obtain ⟨A2, d2, c2, HSL1, HSL2, HAPP⟩ : ∃ (A2 : Option Addr) (d2 c2 : Nat), Hid (∀ w, (Instr.slice 48 (.slice (some ⟨g6, 0, none⟩) N c11) none (some (.int .i64 (k : Int))) none).run Try.prog w = .ok (.slice (some ⟨g6, 0, none⟩) k c11) w) ∧
                            Hid (∀ w, (Instr.slice 48 (.slice (some ⟨g6, 0, none⟩) N c11) (some (.int .i64 (k2 : Int))) none none).run Try.prog w = .ok (.slice A2 d2 c2) w) ∧
                            Hid (∀ W w0, Sep w0 W [.row 50 3 (.slice (some ⟨g6, 0, none⟩) N c11) N (cur2.flatMap R.cells)] → ∃ w2, (∀ ty, (Builtin.append_ #[48, 48] ty #[.slice (some ⟨g6, 0, none⟩) k c11, .slice A2 d2 c2]).run Try.prog W = .ok (.slice (some ⟨g6, 0, none⟩) N3 c11) w2) ∧ Sep w0 w2 [.row 50 3 (.slice (some ⟨g6, 0, none⟩) N3 c11) N3 ((cur2.flatMap R.cells).take (k * 3) ++ (cur2.flatMap R.cells).drop ((k + 1) * 3))]) := by
                          have hn3 := HN3.out
                          have hk2 := HK2.out
                          have h5 := HS5.out
                          have hkn2 := hkn
                          have hnc2 := hNc
                          clear HS5 i1 i2 i3 i4 HNL HN3 HL2 HL3 HC2 HC3 HKJ HK2
                          subst hn3 hk2
                          obtain ⟨A2, d2, c2, s1, s2, s3⟩ := strike2_sep (P := Try.prog) Try.underlying48 hti t1 (by omega) h5 0 (m := N3) (i := k) rfl (by omega) hnc2 (R.one cur2)
                          exact ⟨A2, d2, c2, Lib.hid s1, Lib.hid s2, Lib.hid s3⟩
                        have HKW : Hid (IntKind.i64.wrap ((k : Int) + 1) = (k2 : Int)) := Lib.hid (by rw [HK2.out]; exact IntWalk.i64_in _ ⟨by omega, by omega⟩)
                        refine wp_region_inv0 (fun ac0 L ac w' => ∃ x11 x191 x192 x193 x194 x195 x196 x197 x198, ac = turn ac0 [(11, x11), (191, x191), (192, x192), (193, x193), (194, x194), (195, x195), (196, x196), (197, x197), (198, x198)] ∧ (L 0 = true → x191 = .slice (some ⟨g6, 0, none⟩) N c11) ∧ (L 1 = true → x192 = .int .i64 (k : Int)) ∧ (L 2 = true → x193 = .slice (some ⟨g6, 0, none⟩) k c11) ∧ (L 3 = true → x194 = .slice (some ⟨g6, 0, none⟩) N c11) ∧ (L 4 = true → x195 = .int .i64 (k : Int)) ∧ (L 5 = true → x196 = .int .i64 (k2 : Int)) ∧ (L 6 = true → x197 = .slice A2 d2 c2) ∧ (L 8 = true → x11 = .slice (some ⟨g6, 0, none⟩) N3 c11) ∧ (L 2 = true → L 0 = true ∧ L 1 = true) ∧ (L 5 = true → L 4 = true) ∧ (L 6 = true → L 3 = true ∧ L 5 = true) ∧ (L 7 = true → L 2 = true ∧ L 6 = true) ∧ (L 8 = true → L 0 = true ∧ L 1 = true ∧ L 2 = true ∧ L 3 = true ∧ L 4 = true ∧ L 5 = true ∧ L 6 = true ∧ L 7 = true) ∧ (L 8 = false → x11 = .slice (some ⟨g6, 0, none⟩) N c11) ∧ (if L 7 = true then (x198 = .slice (some ⟨g6, 0, none⟩) N3 c11 ∧ Sep w w' [.row 50 3 (.slice (some ⟨g6, 0, none⟩) N3 c11) N3 ((cur2.flatMap R.cells).take (k * 3) ++ (cur2.flatMap R.cells).drop ((k + 1) * 3))]) else Sep w w' [.row 50 3 (.slice (some ⟨g6, 0, none⟩) N c11) N (cur2.flatMap R.cells)])) rfl (by kernel_rfl) ?_ ?_ ?_
                        · simp only [turn, List.foldl_cons, List.foldl_nil, List.setIfInBounds_toArray, List.set_cons_succ, List.set_cons_zero]
                          exact ⟨_, _, _, _, _, _, _, _, _, rfl, (fun h => absurd h (by decide)), (fun h => absurd h (by decide)), (fun h => absurd h (by decide)), (fun h => absurd h (by decide)), (fun h => absurd h (by decide)), (fun h => absurd h (by decide)), (fun h => absurd h (by decide)), (fun h => absurd h (by decide)), (fun h => absurd h (by decide)), (fun h => absurd h (by decide)), (fun h => absurd h (by decide)), (fun h => absurd h (by decide)), (fun h => absurd h (by decide)), (fun _ => rfl), by simpa using HS5.out.drew⟩
                        · rintro L ac w' i o ⟨x11, x191, x192, x193, x194, x195, x196, x197, x198, ha, p0, p1, p2, p3, p4, p5, p6, p8, q2, q5, q6, q7, q8, n8, hS⟩ ho hi he
                          simp only [turn, List.foldl_cons, List.foldl_nil, List.setIfInBounds_toArray, List.set_cons_succ, List.set_cons_zero] at ha ⊢
                          subst ha
                          rcases i with _|_|_|_|_|_|_|_|_|i
                          all_goals cases ho
                          all_goals simp [Region.binds] at he
                          · have h2 : L 2 = false := by cases hh : L 2 with | false => rfl | true => (have hq := q2 hh; simp [hi] at hq)
                            have h8 : L 8 = false := by cases hh : L 8 with | false => rfl | true => (have hq := q8 hh; simp [hi] at hq)
                            have h7 : L 7 = false := by cases hh : L 7 with | false => rfl | true => (have hq := q7 hh; simp [h2] at hq)
                            obtain rfl := n8 h8
                            refine wpOp_step rfl (fun K hK => ?_)
                            go_simp
                            exact hK _ _ ⟨_, _, _, _, _, _, _, _, _, rfl, (fun _ => rfl), (by first | exact p1 | exact fun _ => rfl), (by simp [h2]), (by first | exact p3 | exact fun _ => rfl), (by first | exact p4 | exact fun _ => rfl), (by first | exact p5 | exact fun _ => rfl), (by first | exact p6 | exact fun _ => rfl), (by simp [h8]), (by simp [h2]), (by simpa using q5), (by simpa using q6), (by simp [h7]), (by simp [h8]), (by first | exact fun _ => rfl | exact n8), (by simpa [h2, h8, h7] using hS)⟩
                          · have h2 : L 2 = false := by cases hh : L 2 with | false => rfl | true => (have hq := q2 hh; simp [hi] at hq)
                            have h8 : L 8 = false := by cases hh : L 8 with | false => rfl | true => (have hq := q8 hh; simp [hi] at hq)
                            have h7 : L 7 = false := by cases hh : L 7 with | false => rfl | true => (have hq := q7 hh; simp [h2] at hq)
                            refine wpOp_step rfl (fun K hK => ?_)
                            go_simp
                            exact hK _ _ ⟨_, _, _, _, _, _, _, _, _, rfl, (by first | exact p0 | exact fun _ => rfl), (fun _ => rfl), (by simp [h2]), (by first | exact p3 | exact fun _ => rfl), (by first | exact p4 | exact fun _ => rfl), (by first | exact p5 | exact fun _ => rfl), (by first | exact p6 | exact fun _ => rfl), (by simp [h8]), (by simp [h2]), (by simpa using q5), (by simpa using q6), (by simp [h7]), (by simp [h8]), (by first | exact fun _ => rfl | exact n8), (by simpa [h2, h8, h7] using hS)⟩
                          · have h7 : L 7 = false := by cases hh : L 7 with | false => rfl | true => (have hq := q7 hh; simp [hi] at hq)
                            have h8 : L 8 = false := by cases hh : L 8 with | false => rfl | true => (have hq := q8 hh; simp [hi] at hq)
                            obtain rfl := p0 (by simp [he])
                            obtain rfl := p1 (by simp [he])
                            have hsl := HSL1.out w'
                            refine wpOp_step rfl (fun K hK => ?_)
                            go_simp
                            exact hK _ _ ⟨_, _, _, _, _, _, _, _, _, rfl, (by first | exact p0 | exact fun _ => rfl), (by first | exact p1 | exact fun _ => rfl), (fun _ => rfl), (by first | exact p3 | exact fun _ => rfl), (by first | exact p4 | exact fun _ => rfl), (by first | exact p5 | exact fun _ => rfl), (by first | exact p6 | exact fun _ => rfl), (by simp [h8]), (by simp [he]), (by simpa using q5), (by simpa using q6), (by simp [h7]), (by simp [h8]), (by first | exact fun _ => rfl | exact n8), (by simpa [h7, h8] using hS)⟩
                          · have h6 : L 6 = false := by cases hh : L 6 with | false => rfl | true => (have hq := q6 hh; simp [hi] at hq)
                            have h8 : L 8 = false := by cases hh : L 8 with | false => rfl | true => (have hq := q8 hh; simp [hi] at hq)
                            have h7 : L 7 = false := by cases hh : L 7 with | false => rfl | true => (have hq := q7 hh; simp [h6] at hq)
                            obtain rfl := n8 h8
                            refine wpOp_step rfl (fun K hK => ?_)
                            go_simp
                            exact hK _ _ ⟨_, _, _, _, _, _, _, _, _, rfl, (by first | exact p0 | exact fun _ => rfl), (by first | exact p1 | exact fun _ => rfl), (by first | exact p2 | exact fun _ => rfl), (fun _ => rfl), (by first | exact p4 | exact fun _ => rfl), (by first | exact p5 | exact fun _ => rfl), (by simp [h6]), (by simp [h8]), (by simpa using q2), (by simpa using q5), (by simp [h6]), (by simp [h7]), (by simp [h8]), (by first | exact fun _ => rfl | exact n8), (by simpa [h6, h8, h7] using hS)⟩
                          · have h5 : L 5 = false := by cases hh : L 5 with | false => rfl | true => (have hq := q5 hh; simp [hi] at hq)
                            have h8 : L 8 = false := by cases hh : L 8 with | false => rfl | true => (have hq := q8 hh; simp [hi] at hq)
                            have h6 : L 6 = false := by cases hh : L 6 with | false => rfl | true => (have hq := q6 hh; simp [h5] at hq)
                            have h7 : L 7 = false := by cases hh : L 7 with | false => rfl | true => (have hq := q7 hh; simp [h6] at hq)
                            refine wpOp_step rfl (fun K hK => ?_)
                            go_simp
                            exact hK _ _ ⟨_, _, _, _, _, _, _, _, _, rfl, (by first | exact p0 | exact fun _ => rfl), (by first | exact p1 | exact fun _ => rfl), (by first | exact p2 | exact fun _ => rfl), (by first | exact p3 | exact fun _ => rfl), (fun _ => rfl), (by simp [h5]), (by simp [h6]), (by simp [h8]), (by simpa using q2), (by simp [h5]), (by simp [h6]), (by simp [h7]), (by simp [h8]), (by first | exact fun _ => rfl | exact n8), (by simpa [h5, h8, h6, h7] using hS)⟩
                          · have h6 : L 6 = false := by cases hh : L 6 with | false => rfl | true => (have hq := q6 hh; simp [hi] at hq)
                            have h8 : L 8 = false := by cases hh : L 8 with | false => rfl | true => (have hq := q8 hh; simp [hi] at hq)
                            have h7 : L 7 = false := by cases hh : L 7 with | false => rfl | true => (have hq := q7 hh; simp [h6] at hq)
                            obtain rfl := p4 (by simp [he])
                            have hwr := HKW.out
                            refine wpOp_step rfl (fun K hK => ?_)
                            go_simp
                            exact hK _ _ ⟨_, _, _, _, _, _, _, _, _, rfl, (by first | exact p0 | exact fun _ => rfl), (by first | exact p1 | exact fun _ => rfl), (by first | exact p2 | exact fun _ => rfl), (by first | exact p3 | exact fun _ => rfl), (by first | exact p4 | exact fun _ => rfl), (fun _ => rfl), (by simp [h6]), (by simp [h8]), (by simpa using q2), (by simp [he]), (by simp [h6]), (by simp [h7]), (by simp [h8]), (by first | exact fun _ => rfl | exact n8), (by simpa [h6, h8, h7] using hS)⟩
                          · have h7 : L 7 = false := by cases hh : L 7 with | false => rfl | true => (have hq := q7 hh; simp [hi] at hq)
                            have h8 : L 8 = false := by cases hh : L 8 with | false => rfl | true => (have hq := q8 hh; simp [hi] at hq)
                            obtain rfl := p3 (by simp [he])
                            obtain rfl := p5 (by simp [he])
                            have hsl := HSL2.out w'
                            refine wpOp_step rfl (fun K hK => ?_)
                            go_simp
                            exact hK _ _ ⟨_, _, _, _, _, _, _, _, _, rfl, (by first | exact p0 | exact fun _ => rfl), (by first | exact p1 | exact fun _ => rfl), (by first | exact p2 | exact fun _ => rfl), (by first | exact p3 | exact fun _ => rfl), (by first | exact p4 | exact fun _ => rfl), (by first | exact p5 | exact fun _ => rfl), (fun _ => rfl), (by simp [h8]), (by simpa using q2), (by simpa using q5), (by simp [he]), (by simp [h7]), (by simp [h8]), (by first | exact fun _ => rfl | exact n8), (by simpa [h7, h8] using hS)⟩
                          · have h8 : L 8 = false := by cases hh : L 8 with | false => rfl | true => (have hq := q8 hh; simp [hi] at hq)
                            obtain rfl := p2 (by simp [he])
                            obtain rfl := p6 (by simp [he])
                            rw [if_neg (by simp [hi])] at hS
                            obtain ⟨w5, happ, hN⟩ := HAPP.out w' w hS
                            refine wpOp_at rfl rfl ?_
                            refine oper_append_run (.tmp 193) (.tmp 197) 48 rfl _ _ _ w5 rfl rfl (happ _) ?_
                            exact ⟨_, _, _, _, _, _, _, _, _, rfl, (by first | exact p0 | exact fun _ => rfl), (by first | exact p1 | exact fun _ => rfl), (by first | exact p2 | exact fun _ => rfl), (by first | exact p3 | exact fun _ => rfl), (by first | exact p4 | exact fun _ => rfl), (by first | exact p5 | exact fun _ => rfl), (by first | exact p6 | exact fun _ => rfl), (by simp [h8]), (by simpa using q2), (by simpa using q5), (by simpa using q6), (by simp [he]), (by simp [h8]), (by first | exact fun _ => rfl | exact n8), (by rw [if_pos (by simp)]; exact ⟨rfl, hN⟩)⟩
                          · obtain rfl : x198 = .slice (some ⟨g6, 0, none⟩) N3 c11 := by
                              rw [if_pos (by simp [he])] at hS
                              exact hS.1
                            refine wpOp_step rfl (fun K hK => ?_)
                            go_simp
                            exact hK _ _ ⟨_, _, _, _, _, _, _, _, _, rfl, (by first | exact p0 | exact fun _ => rfl), (by first | exact p1 | exact fun _ => rfl), (by first | exact p2 | exact fun _ => rfl), (by first | exact p3 | exact fun _ => rfl), (by first | exact p4 | exact fun _ => rfl), (by first | exact p5 | exact fun _ => rfl), (by first | exact p6 | exact fun _ => rfl), (fun _ => rfl), (by simpa using q2), (by simpa using q5), (by simpa using q6), (by simpa using q7), (by simp [he]), (by simp), (by simpa using hS)⟩
                        · rintro L ac w' ⟨x11, x191, x192, x193, x194, x195, x196, x197, x198, ha, p0, p1, p2, p3, p4, p5, p6, p8, q2, q5, q6, q7, q8, n8, hS⟩ hall
                          have t7 := hall 7 (by decide)
                          rw [if_pos t7] at hS
                          obtain ⟨rfl, hS⟩ := hS
                          obtain rfl := p0 (hall 0 (by decide))
                          obtain rfl := p1 (hall 1 (by decide))
                          obtain rfl := p2 (hall 2 (by decide))
                          obtain rfl := p3 (hall 3 (by decide))
                          obtain rfl := p4 (hall 4 (by decide))
                          obtain rfl := p5 (hall 5 (by decide))
                          obtain rfl := p6 (hall 6 (by decide))
                          obtain rfl := p8 (hall 8 (by decide))
                          simp only [turn, List.foldl_cons, List.foldl_nil, List.setIfInBounds_toArray, List.set_cons_succ, List.set_cons_zero] at ha
                          subst ha
                          clear q2 q5 q6 q7 q8 n8 t7
                          have HS6 := Lib.hid hS
                          clear hS
                          rw [flat_take R.len, flat_drop R.len, ← List.flatMap_append, ← HC3.out] at HS6
                          go_wp2
                          go_roundg (N3 + 1 - k)
                          case measure => have := HN3.out; omega
                          case rel => exact ⟨cur3, N3, k, rfl, rfl, hk1, HL3.out.symm, by have := HN3.out; omega, by have := HN3.out; omega, rfl, HJ2, HB3, HS6.out⟩
                      · have c2' : (p.disk + p.many == o.disk) = false := by rw [beq_eq_false_iff_ne]; exact c2
                        have HJ2 : Hid (Jn cl cur (k + 1)) := Lib.hid (by rw [HKJ.out]; exact jn_stay (by rw [← HKJ.out]; exact HJN.out) HPP.out HOO.out (fun h => c2 h.2))
                        clear c1 c2
                        refine wp_region_later (by kernel_rfl) (by kernel_rfl) ?_
                        repeat (go_big_quiet_step (fail))
                        refine wpQuiet_nil ?_; intro xw hw'; obtain ⟨xq, hw''⟩ := hw'; obtain ⟨xw0, xh⟩ := xq; change xw = xw0 at hw''; subst hw''
                        go_wp2
                        go_roundg (N + 1 - (k + 1))
                        case measure => omega
                        case rel => exact ⟨cur, N, k + 1, rfl, by go_num, by omega, HNL.out, hNc, hNb, rfl, HJ2, HB, (HSa.out.later xh).pick [0] (by decide) (by simp)⟩
                    · have c1' : (p.at_ + p.many == o.at_) = false := by rw [beq_eq_false_iff_ne]; exact c1
                      have HJ2 : Hid (Jn cl cur (k + 1)) := Lib.hid (by rw [HKJ.out]; exact jn_stay (by rw [← HKJ.out]; exact HJN.out) HPP.out HOO.out (fun h => c1 h.1))
                      clear c1
                      refine wp_region_later (by kernel_rfl) (by kernel_rfl) ?_
                      repeat (go_big_quiet_step (fail))
                      refine wpQuiet_nil ?_; intro xw hw'; obtain ⟨xq, hw''⟩ := hw'; obtain ⟨xw0, xh⟩ := xq; change xw = xw0 at hw''; subst hw''
                      go_wp2
                      go_roundg (N + 1 - (k + 1))
                      case measure => omega
                      case rel => exact ⟨cur, N, k + 1, rfl, by go_num, by omega, HNL.out, hNc, hNb, rfl, HJ2, HB, (HSa.out.later xh).pick [0] (by decide) (by simp)⟩
                  · obtain rfl : cur = cl := jn_end HJN.out (by rw [← HNL.out]; exact hkn)
                    have hnl := HNL.out
                    subst hnl
                    have cM := Lib.hid (mright_any A11 cur.length c11 cur wr (HS.out.rd 0 rfl) rfl (by omega))
                    rw [mr_right] at cM
                    go_wp2_with fail
                    refine cM.out.mono ?_; rintro en w5 ⟨rfl, hb5⟩
                    go_wp2
                    refine bodyPost_ret (v := .tuple #[.slice A11 cur.length c11, .bool (rightB cur)]) (by simp [results, Try.results18]) rfl ?_
                    exact ⟨A11, c11, rfl, HS.out.later hb5⟩
          · have hxE : x ∈ E := eh_some.1 (by rw [hxa]; rfl)
            have HXE := Lib.hid hxE
            have HTX := Lib.hid hx
            obtain ⟨x0, x1⟩ := HEB.out x hxE
            have H3 : Sep w w2 [.cells gr 50 [.int .i64 ra, .int .i64 rd, .int .i64 rm], .obj gm (.map es clock), .row 50 3 (.slice A11 acc.length c11) acc.length (acc.flatMap R.cells), .obj r1 (.mapIter (some gm) clock seen' clock)] := H2
            obtain ⟨hrun2, H4, todo0, R0, htl, hmem⟩ := H3.rangeStart 1 rfl HM.out kint Try.underlying68
            have HR0 := Lib.hid R0
            have HT0 : Hid (∀ x, x ∈ todo0 ↔ x ∈ E) := Lib.hid (fun x => (hmem x).trans eh_some)
            have HTO : Hid (To E x todo0 1152921504606846976) := Lib.hid (.inl ⟨rfl, fun y hy _ => (HT0.out y).2 hy⟩)
            have HS2 : Hid (Sep w (w2.alloc (.mapIter (some gm) clock #[] clock)) [.cells gr 50 [.int .i64 ra, .int .i64 rd, .int .i64 rm], .obj gm (.map es clock), .row 50 3 (.slice A11 acc.length c11) acc.length (acc.flatMap R.cells), .obj r1 (.mapIter (some gm) clock seen' clock), .obj w2.heap.size (.mapIter (some gm) clock #[] clock)]) := Lib.hid H4
            have hpos : 0 < todo.length := List.length_pos_of_mem hx
            have hlen1 : (todo.erase x).length = todo.length - 1 := List.length_erase_of_mem hx
            clear H2 H3 H4 R0 hmem hxa hxE hx hsz
            go_wp2
            clear hrun hrun2 hen
            generalize w2.alloc (.mapIter (some gm) clock #[] clock) = wo at HS2 ⊢
            generalize w2.heap.size = r2 at HS2 ⊢
            go_loopg [13] todo0.length (fun g v13 wl => ∃ (td : List Int) (sn : Array Nat) (c2 : Nat) (v : Int), g = td.length ∧ v13 = .int .i64 v ∧ Hid (Rg (Value.int .i64) es clock clock sn c2 td) ∧ Hid (To E x td v) ∧
              Sep w wl [.cells gr 50 [.int .i64 ra, .int .i64 rd, .int .i64 rm], .obj gm (.map es clock), .row 50 3 (.slice A11 acc.length c11) acc.length (acc.flatMap R.cells), .obj r1 (.mapIter (some gm) clock seen' clock), .obj r2 (.mapIter (some gm) clock sn c2)])
            case atStart => exact ⟨todo0, #[], clock, _, rfl, rfl, HR0, HTO, HS2.out⟩
            case round =>
              clear HS2 HTO HT0 HR0 htl HS
              obtain ⟨td, sn, c2, v, rfl, rfl, HRG3, HTO, hs⟩ := hrel
              have HS := Lib.hid hs
              clear hs
              rcases HS.out.rangeNext 1 4 (by decide) rfl rfl HM.out kint HRG3.out 0 with ⟨rfl, hrun⟩ | ⟨y, a, w3, sn', hy, hya, hrun, hsz, H2, HRG4, hen⟩
              · have HTE := Lib.hid HTO.out
                have HS2 := Lib.hid (HS.out.pick [0, 1, 2, 3] (by decide) (by simp))
                clear HTO HRG3 HS
                by_cases hv : v = 1152921504606846976
                · have HACC2 := Lib.hid (acc_skip HACC.out HRG.out.nd (x := x) (.inr (fun y hy hxy => by
                    rcases HTE.out with ⟨_, h⟩ | ⟨h1, _, _⟩
                    · exact absurd (h y hy hxy) (by simp)
                    · have := HEB.out v h1
                      omega)))
                  subst hv
                  go_wp2
                  go_roundg (todo.erase x).length
                  case measure => omega
                  case rel => exact ⟨todo.erase x, seen', clock, acc, A11, c11, rfl, rfl, hc11, by omega, Lib.hid HRG2, HACC2, HS2.out⟩
                · have hv2 : (v == 1152921504606846976) = false := by rw [beq_eq_false_iff_ne]; exact hv
                  obtain ⟨hvE, hxv, hmin⟩ : v ∈ E ∧ x < v ∧ ∀ y ∈ E, x < y → v ≤ y := by
                    rcases HTE.out with ⟨h, _⟩ | ⟨h1, h2, h3⟩
                    · exact absurd h hv
                    · exact ⟨h1, h2, fun y hy hxy => h3 y hy hxy (by simp)⟩
                  have hvb := (HEB.out v hvE).2
                  have hqn : q ≤ 2199023255556 := by omega
                  have hxw : -9223372036854775808 ≤ x ∧ x ≤ 9223372036854775807 := ⟨by omega, by omega⟩
                  have cF := Lib.hid (mfind_any A k c l x wr (HR.out.later HS2.out.below) HL.out (by omega) hxw.1 hxw.2 HSM.out)
                  have hmb : -1 ≤ mfindL x l ∧ mfindL x l ≤ 2199023255552 := by
                    unfold mfindL
                    cases hf : findL x l with
                    | none => simp
                    | some d =>
                      have := findL_range HSM.out hf
                      simp only [Option.getD_some]
                      omega
                  obtain ⟨mf, HMF⟩ : ∃ mf, Hid (mf = mfindL x l) := ⟨_, Lib.hid rfl⟩
                  rw [← HMF.out] at cF hmb
                  obtain ⟨mf0, mf1⟩ := hmb
                  clear hxw
                  go_wp2_with fail
                  refine cF.out.mono ?_; rintro en w4 ⟨rfl, hb4⟩
                  have HS3 := Lib.hid (HS2.out.later hb4)
                  have f0 := HS3.out.cell 0 rfl (k := 0) rfl
                  have f1 := HS3.out.cell 0 rfl (k := 1) rfl
                  have f2 := HS3.out.cell 0 rfl (k := 2) rfl
                  clear HS2 hb4 cF
                  by_cases j1 : ra ≤ x
                  · by_cases j2 : x < ra + rm
                    · cases put with
                      | false =>
                        have HDK : Hid (dkf false ⟨ra, rd, rm⟩ l x = -1) := Lib.hid (by unfold dkf; rw [if_pos ⟨j1, j2⟩]; rfl)
                        have HACC2 : Hid (Acc E (dkf false ⟨ra, rd, rm⟩ l) (todo.erase x) acc) := Lib.hid (acc_skip HACC.out HRG.out.nd (.inl (by rw [HDK.out]; omega)))
                        have HRG3 := Lib.hid HRG2
                        clear HACC HRG HRG2 hmin hvE HTE
                        go_wp2
                        go_roundg (todo.erase x).length
                        case measure => omega
                        case rel => exact ⟨todo.erase x, seen', clock, acc, A11, c11, rfl, rfl, hc11, by omega, HRG3, HACC2, HS3.out⟩
                      | true =>
                        have HDK : Hid (dkf true ⟨ra, rd, rm⟩ l x = rd + x - ra) := Lib.hid (by unfold dkf; rw [if_pos ⟨j1, j2⟩]; rfl)
                        have j3 : 0 ≤ rd + x - ra := by omega
                        have HACC2 : Hid (Acc E (dkf true ⟨ra, rd, rm⟩ l) (todo.erase x) (acc ++ [⟨x, rd + x - ra, v - x⟩])) := Lib.hid (by have := acc_add HACC.out HRG.out.nd HTX.out HXE.out hvE hxv hmin (by rw [HDK.out]; exact j3); rwa [HDK.out] at this)
                        have HRG3 := Lib.hid HRG2
                        have hq24 : (acc.length + 1) * 24 ≤ 140737488355328 := by omega
                        have hnew := Lib.hid (Rd.of_own (own_new w4 50 #[.int .i64 x, .int .i64 (rd + x - ra), .int .i64 (v - x)] 3 1 rfl (by simp [maxLen]) (Nat.le_refl _)))
                        clear HACC HRG HRG2 hmin hvE HTE
                        go_wp2_with (at_builtin; refine wpList_append_sep (HS3.out.alloc _) 2 rfl (.tmp 94) (.tmp 101) 48 rfl 50 ti (.agg #[.int .i64 0, .int .i64 0, .int .i64 0]) 3 24 Try.underlying48 hti t0 t1 t2 rfl (by omega) _ acc.length _ rfl rfl _ _ 1 1 _ rfl hnew.out (by simp [Value.oneCell']) (by simp only [maxLen]; omega) hq24 ?_; intro A9 c9 w9 hc9 hs9 H9'; have H9 := Lib.hid H9'; clear H9')
                        go_roundg (todo.erase x).length
                        case measure => omega
                        case rel => exact ⟨todo.erase x, seen', clock, acc ++ [⟨x, rd + x - ra, v - x⟩], A9, c9, rfl, by rw [List.length_append]; rfl, by rw [List.length_append]; exact hc9, by rw [List.length_append, List.length_singleton]; omega, HRG3, HACC2, by rw [List.flatMap_append, List.length_append]; exact H9.out⟩
                    · have HDK : Hid (dkf put ⟨ra, rd, rm⟩ l x = mf) := Lib.hid (by unfold dkf; rw [if_neg (by simp only; omega), HMF.out])
                      by_cases j3 : 0 ≤ mf
                      · have HACC2 : Hid (Acc E (dkf put ⟨ra, rd, rm⟩ l) (todo.erase x) (acc ++ [⟨x, mf, v - x⟩])) := Lib.hid (by have := acc_add HACC.out HRG.out.nd HTX.out HXE.out hvE hxv hmin (by rw [HDK.out]; exact j3); rwa [HDK.out] at this)
                        have HRG3 := Lib.hid HRG2
                        have hq24 : (acc.length + 1) * 24 ≤ 140737488355328 := by omega
                        have hnew := Lib.hid (Rd.of_own (own_new w4 50 #[.int .i64 x, .int .i64 (mf), .int .i64 (v - x)] 3 1 rfl (by simp [maxLen]) (Nat.le_refl _)))
                        clear HACC HRG HRG2 hmin hvE HTE
                        go_wp2_with (at_builtin; refine wpList_append_sep (HS3.out.alloc _) 2 rfl (.tmp 94) (.tmp 101) 48 rfl 50 ti (.agg #[.int .i64 0, .int .i64 0, .int .i64 0]) 3 24 Try.underlying48 hti t0 t1 t2 rfl (by omega) _ acc.length _ rfl rfl _ _ 1 1 _ rfl hnew.out (by simp [Value.oneCell']) (by simp only [maxLen]; omega) hq24 ?_; intro A9 c9 w9 hc9 hs9 H9'; have H9 := Lib.hid H9'; clear H9')
                        go_roundg (todo.erase x).length
                        case measure => omega
                        case rel => exact ⟨todo.erase x, seen', clock, acc ++ [⟨x, mf, v - x⟩], A9, c9, rfl, by rw [List.length_append]; rfl, by rw [List.length_append]; exact hc9, by rw [List.length_append, List.length_singleton]; omega, HRG3, HACC2, by rw [List.flatMap_append, List.length_append]; exact H9.out⟩
                      · have HACC2 : Hid (Acc E (dkf put ⟨ra, rd, rm⟩ l) (todo.erase x) acc) := Lib.hid (acc_skip HACC.out HRG.out.nd (.inl (by rw [HDK.out]; omega)))
                        have HRG3 := Lib.hid HRG2
                        clear HACC HRG HRG2 hmin hvE HTE
                        go_wp2
                        go_roundg (todo.erase x).length
                        case measure => omega
                        case rel => exact ⟨todo.erase x, seen', clock, acc, A11, c11, rfl, rfl, hc11, by omega, HRG3, HACC2, HS3.out⟩
                  · have HDK : Hid (dkf put ⟨ra, rd, rm⟩ l x = mf) := Lib.hid (by unfold dkf; rw [if_neg (by simp only; omega), HMF.out])
                    by_cases j3 : 0 ≤ mf
                    · have HACC2 : Hid (Acc E (dkf put ⟨ra, rd, rm⟩ l) (todo.erase x) (acc ++ [⟨x, mf, v - x⟩])) := Lib.hid (by have := acc_add HACC.out HRG.out.nd HTX.out HXE.out hvE hxv hmin (by rw [HDK.out]; exact j3); rwa [HDK.out] at this)
                      have HRG3 := Lib.hid HRG2
                      have hq24 : (acc.length + 1) * 24 ≤ 140737488355328 := by omega
                      have hnew := Lib.hid (Rd.of_own (own_new w4 50 #[.int .i64 x, .int .i64 (mf), .int .i64 (v - x)] 3 1 rfl (by simp [maxLen]) (Nat.le_refl _)))
                      clear HACC HRG HRG2 hmin hvE HTE
                      go_wp2_with (at_builtin; refine wpList_append_sep (HS3.out.alloc _) 2 rfl (.tmp 94) (.tmp 101) 48 rfl 50 ti (.agg #[.int .i64 0, .int .i64 0, .int .i64 0]) 3 24 Try.underlying48 hti t0 t1 t2 rfl (by omega) _ acc.length _ rfl rfl _ _ 1 1 _ rfl hnew.out (by simp [Value.oneCell']) (by simp only [maxLen]; omega) hq24 ?_; intro A9 c9 w9 hc9 hs9 H9'; have H9 := Lib.hid H9'; clear H9')
                      go_roundg (todo.erase x).length
                      case measure => omega
                      case rel => exact ⟨todo.erase x, seen', clock, acc ++ [⟨x, mf, v - x⟩], A9, c9, rfl, by rw [List.length_append]; rfl, by rw [List.length_append]; exact hc9, by rw [List.length_append, List.length_singleton]; omega, HRG3, HACC2, by rw [List.flatMap_append, List.length_append]; exact H9.out⟩
                    · have HACC2 : Hid (Acc E (dkf put ⟨ra, rd, rm⟩ l) (todo.erase x) acc) := Lib.hid (acc_skip HACC.out HRG.out.nd (.inl (by rw [HDK.out]; omega)))
                      have HRG3 := Lib.hid HRG2
                      clear HACC HRG HRG2 hmin hvE HTE
                      go_wp2
                      go_roundg (todo.erase x).length
                      case measure => omega
                      case rel => exact ⟨todo.erase x, seen', clock, acc, A11, c11, rfl, rfl, hc11, by omega, HRG3, HACC2, HS3.out⟩
              · have hyE : y ∈ E := eh_some.1 (by rw [hya]; rfl)
                have hnd := HRG3.out.nd
                have hpos2 : 0 < td.length := List.length_pos_of_mem hy
                have hlen2 : (td.erase y).length = td.length - 1 := List.length_erase_of_mem hy
                have HS3 : Hid (Sep w w3 [.cells gr 50 [.int .i64 ra, .int .i64 rd, .int .i64 rm], .obj gm (.map es clock), .row 50 3 (.slice A11 acc.length c11) acc.length (acc.flatMap R.cells), .obj r1 (.mapIter (some gm) clock seen' clock), .obj r2 (.mapIter (some gm) clock sn' clock)]) := Lib.hid H2
                have HRG5 := Lib.hid HRG4
                by_cases k1 : x < y
                · by_cases k2 : y < v
                  · have HTO2 := Lib.hid (to_next HTO.out hnd hyE k1 k2)
                    clear H2 HRG4 HTO hnd hyE hy hya hsz
                    go_wp2
                    go_roundg (td.erase y).length
                    case measure => omega
                    case rel => exact ⟨td.erase y, sn', clock, y, rfl, rfl, HRG5, HTO2, HS3.out⟩
                  · have HTO2 := Lib.hid (to_same HTO.out hnd (fun z hz => by have := HEB.out z hz; omega) hyE (.inr k2))
                    clear H2 HRG4 HTO hnd hyE hy hya hsz
                    go_wp2
                    go_roundg (td.erase y).length
                    case measure => omega
                    case rel => exact ⟨td.erase y, sn', clock, v, rfl, rfl, HRG5, HTO2, HS3.out⟩
                · have HTO2 := Lib.hid (to_same HTO.out hnd (fun z hz => by have := HEB.out z hz; omega) hyE (.inl k1))
                  clear H2 HRG4 HTO hnd hyE hy hya hsz
                  go_wp2
                  go_roundg (td.erase y).length
                  case measure => omega
                  case rel => exact ⟨td.erase y, sn', clock, v, rfl, rfl, HRG5, HTO2, HS3.out⟩
end Runs
end Go.Proofs.Ytfljbiobiobamaa
