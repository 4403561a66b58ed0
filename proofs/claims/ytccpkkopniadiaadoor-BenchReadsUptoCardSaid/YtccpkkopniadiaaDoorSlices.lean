/-
  Slices of the call's own, cut, cleared and copied into: what each builtin does to a row. Conditions: none beyond each theorem's own premises.
-/
import Derived.Test.YtccpkkopniadiaaDoorSep
namespace Go.Proofs.YtccpkkopniadiaaDoor
open Go.RowKit
set_option linter.unusedVariables false

/-- a call hands back a slice of its own: n elements that hold xs -/
def SliceRet (w : World) (E C n : Nat) (xs : List Value) (e : Ending) (w' : World) : Prop := ∃ A' c', n ≤ c' ∧ e = .returned (.slice A' n c') ∧ Sep w w' [.row E C (.slice A' n c') n xs]

/-- where s[k:] lies -/
def fromAddr (A : Option Addr) (c k C : Nat) : Option Addr := if c = k then A else A.map (·.add (k * C))
section
variable {P : Program} {t e : TypeId} {C : Nat}
theorem from_run (ht' : P.underlying t = some (.slice e)) (hC : ∀ w, (sizeOf e).run P w = .ok C w) (A : Option Addr) (n c k : Nat) (hk : k ≤ n) (w : World) :
    (Instr.slice t (.slice A n c) (some (.int .i64 (k : Int))) none none).run P w = .ok (.slice (fromAddr A c k C) (n - k) (c - k)) w := by
  have he : P.elem t = e := by unfold Program.elem; rw [ht']
  have ht : P.underlying t = some (.slice (P.elem t)) := by rw [he]; exact ht'
  rw [run_slice_l w t A n c ht .i64 (k : Int) (by omega) (by omega), he, hC]
  simp [Result.andThen, sliced, fromAddr]
theorem upto_run (ht' : P.underlying t = some (.slice e)) (hC : ∀ w, (sizeOf e).run P w = .ok C w) (A : Option Addr) (n c k : Nat) (hk : k ≤ c) (w : World) :
    (Instr.slice t (.slice A n c) none (some (.int .i64 (k : Int))) none).run P w = .ok (.slice A k c) w := by
  have he : P.elem t = e := by unfold Program.elem; rw [ht']
  have ht : P.underlying t = some (.slice (P.elem t)) := by rw [he]; exact ht'
  rw [run_slice_h w t A n c ht .i64 (k : Int) (by omega) (by omega), he, hC]
  simp only [Result.andThen, sliced, Nat.zero_mul, Nat.sub_zero, Int.toNat_natCast]
  congr 2
  cases A with
  | none => simp
  | some a => simp [Addr.add]
theorem rd_fromAddr {w : World} {B n c k : Nat} {A : Option Addr} {xs : List Value} (h : Rd w B C A n xs) (hk : k ≤ n) (hc : n ≤ c) : Rd w B C (fromAddr A c k C) (n - k) (xs.drop (k * C)) := by
  refine ⟨?_, fun h0 => ?_⟩
  · rw [List.length_drop, h.1, Nat.sub_mul]
  · obtain ⟨b, off, rfl, hb, hc'⟩ := h.2 (by omega)
    unfold fromAddr
    rw [if_neg (by omega)]
    refine ⟨b, off + k * C, ?_, hb, fun j u hu => ?_⟩
    · simp only [Option.map_some, Addr.add]
      by_cases hz : k * C = 0
      · simp [hz]
      · simp [hz]
    · rw [List.getElem?_drop] at hu
      rw [Nat.add_assoc]
      exact hc' _ u hu
end

theorem take_splice {α : Type} (cur vs : List α) (off N : Nat) (h : off + vs.length ≤ N) (hN : N ≤ cur.length) :
    (cur.take off ++ vs ++ cur.drop (off + vs.length)).take N = (cur.take N).take off ++ vs ++ (cur.take N).drop (off + vs.length) := by
  have h1 : (cur.take off ++ vs).length = off + vs.length := by simp; omega
  rw [List.take_append, List.take_of_length_le (by omega), h1, List.take_take, Nat.min_eq_left (by omega), List.drop_take]

section
variable {w : World} {E C n c g : Nat} {xs : List Value}
theorem Row.cut {A : Option Addr} (h : Row w E C (.slice A n c) n xs) {m : Nat} (hm : m ≤ n) : Row w E C (.slice A m c) m (xs.take (m * C)) := by
  obtain ⟨h1, h2⟩ := h
  refine ⟨by rw [List.length_take, h1]; exact Nat.min_eq_left (Nat.mul_le_mul_right _ hm), ?_⟩
  rcases h2 with ⟨rfl, h2⟩ | ⟨g, cap, cur, hv, hh, hn, hmx, hs, ht⟩
  · obtain rfl : m = 0 := by omega
    exact .inl ⟨rfl, h2⟩
  · cases hv
    refine .inr ⟨g, cap, cur, rfl, hh, by omega, hmx, hs, ?_⟩
    rw [← ht, List.take_take, Nat.min_eq_left (Nat.mul_le_mul_right _ hm)]
/-- within its capacity a row may be taken longer: what lies there then is whatever lay there -/
theorem Row.extend {A : Option Addr} (h : Row w E C (.slice A n c) n xs) {m : Nat} (hm : n + m ≤ c) : ∃ ys, ys.length = m * C ∧ Row w E C (.slice A (n + m) c) (n + m) (xs ++ ys) := by
  obtain ⟨h1, h2⟩ := h
  rcases h2 with ⟨rfl, h2⟩ | ⟨g, cap, cur, hv, hh, hn, hmx, hs, ht⟩
  · obtain rfl : m = 0 := by
      rcases h2 with h2 | ⟨a, h2⟩
      · cases h2; omega
      · cases h2; omega
    exact ⟨[], by simp, by simpa using h1, .inl ⟨rfl, h2⟩⟩
  · cases hv
    have hle : (n + m) * C ≤ cur.size := by rw [hs]; exact Nat.mul_le_mul_right _ hm
    refine ⟨(cur.toList.take ((n + m) * C)).drop (n * C), ?_, ?_, .inr ⟨g, cap, cur, rfl, hh, hm, hmx, hs, ?_⟩⟩
    · rw [List.length_drop, List.length_take, Array.length_toList, Nat.min_eq_left hle, Nat.add_mul]; omega
    · rw [List.length_append, h1, List.length_drop, List.length_take, Array.length_toList, Nat.min_eq_left hle, Nat.add_mul]; omega
    · have := (List.take_append_drop (n * C) (cur.toList.take ((n + m) * C))).symm
      rw [List.take_take, Nat.min_eq_left (Nat.mul_le_mul_right _ (by omega)), ht] at this
      exact this
/-- cells stored one behind the other into a row -/
theorem run_storeCells_row {P : Program} (h : Row w E C (.slice (some ⟨g, 0, none⟩) n c) n xs) (vs : List Value) (off : Nat) (hv : 0 < vs.length) (ho : off + vs.length ≤ n * C) (h1 : ∀ v ∈ vs, v.oneCell' = true) :
    ∃ w', (storeCells ⟨g, off, none⟩ vs).run P w = .ok () w' ∧ Row w' E C (.slice (some ⟨g, 0, none⟩) n c) n (xs.take off ++ vs ++ xs.drop (off + vs.length)) ∧ w.grownBy w' (rowBlk (.slice (some ⟨g, 0, none⟩) n c)) := by
  obtain ⟨hl, h2⟩ := h
  rcases h2 with ⟨rfl, h2⟩ | ⟨g', cap, cur, hv', hh, hn, hmx, hs, ht⟩
  · omega
  · cases hv'
    have hle : n * C ≤ cur.size := by rw [hs]; exact Nat.mul_le_mul_right _ hn
    refine ⟨_, run_storeCells_at (P := P) g off E vs 0 cur w hh (by omega) h1, ⟨?_, .inr ⟨g, cap, _, rfl, setRow_heap w g cur _ E _ hh, hn, hmx, ?_, ?_⟩⟩, ?_⟩
    · simp only [List.length_append, List.length_take, List.length_drop, hl]; omega
    · simp only [List.size_toArray, List.length_append, List.length_take, List.length_drop, Array.length_toList, Nat.add_zero]; omega
    · simp only [Nat.add_zero]
      rw [take_splice _ _ _ _ ho (by simpa using hle), ht]
    · exact ⟨rfl, rfl, rfl, by simp, fun k _ hk => setRow_other w g k _ (fun e => hk (by simp [rowBlk, e]))⟩
end

section
variable {P : Program} {w0 w : World} {L : List It}
/-- the last elements of a row are struck -/
theorem Sep.cut (H : Sep w0 w L) (i : Nat) {E C n c m : Nat} {A : Option Addr} {xs : List Value} (hi : L[i]? = some (.row E C (.slice A n c) n xs)) (hm : m ≤ n) : Sep w0 w (L.set i (.row E C (.slice A m c) m (xs.take (m * C)))) := by
  refine H.step (y := .row E C (.slice A m c) m (xs.take (m * C))) hi (World.grownBy.refl w _) (Row.cut (H.rowHas i hi) hm) (.inr (.inl ?_))
  cases A <;> cases c <;> rfl
theorem Sep.extend (H : Sep w0 w L) (i : Nat) {E C n c m : Nat} {A : Option Addr} {xs : List Value} (hi : L[i]? = some (.row E C (.slice A n c) n xs)) (hm : n + m ≤ c) : ∃ ys, ys.length = m * C ∧ Sep w0 w (L.set i (.row E C (.slice A (n + m) c) (n + m) (xs ++ ys))) := by
  obtain ⟨ys, hy, hr⟩ := Row.extend (H.rowHas i hi) hm
  refine ⟨ys, hy, H.step (y := .row E C (.slice A (n + m) c) (n + m) (xs ++ ys)) hi (World.grownBy.refl w _) hr (.inr (.inl ?_))⟩
  cases A <;> cases c <;> rfl
/-- cells stored into a row -/
theorem Sep.splice (H : Sep w0 w L) (i : Nat) {E C n c g : Nat} {xs : List Value} (hi : L[i]? = some (.row E C (.slice (some ⟨g, 0, none⟩) n c) n xs)) (vs : List Value) (off : Nat) (hv : 0 < vs.length) (ho : off + vs.length ≤ n * C) (h1 : ∀ v ∈ vs, v.oneCell' = true) :
    ∃ w', (storeCells ⟨g, off, none⟩ vs).run P w = .ok () w' ∧ Sep w0 w' (L.set i (.row E C (.slice (some ⟨g, 0, none⟩) n c) n (xs.take off ++ vs ++ xs.drop (off + vs.length)))) := by
  obtain ⟨w', h2, h3, h4⟩ := run_storeCells_row (P := P) (H.rowHas i hi) vs off hv ho h1
  exact ⟨w', h2, H.step (y := .row E C (.slice (some ⟨g, 0, none⟩) n c) n _) hi h4 h3 (.inr (.inl rfl))⟩
theorem row_base {E C n c : Nat} {A : Option Addr} {xs : List Value} (h : Row w E C (.slice A n c) n xs) (h0 : 0 < n) : ∃ g, A = some ⟨g, 0, none⟩ := by
  obtain ⟨g, hg, _⟩ := h.at_ h0
  exact ⟨g, hg⟩

/-- clear(s[k:]), s a row: then s is taken as s[:k] -/
theorem run_clear_sep (H : Sep w0 w L) (i : Nat) {t e : TypeId} {ty : TypeId} {C n c k : Nat} {A : Option Addr} {xs : List Value} {z : Value} (hi : L[i]? = some (.row e C (.slice A n c) n xs)) (ht : P.underlying t = some (.slice e)) (hz : ∀ w, (zeroValue e).run P w = .ok z w) (hzs : z.cells.size = C) (hz1 : ∀ v ∈ z.cells.toList, v.oneCell' = true) (hC : 0 < C) (hk : k ≤ n) (hc : n ≤ c) :
    ∃ w', (Builtin.clear_ #[t] ty #[.slice (fromAddr A c k C) (n - k) (c - k)]).run P w = .ok (.tuple #[]) w' ∧ Sep w0 w' (L.set i (.row e C (.slice A k c) k (xs.take (k * C)))) := by
  rcases Nat.lt_or_ge k n with hlt | hge
  · obtain ⟨g, rfl⟩ := row_base (H.rowHas i hi) (show 0 < n by omega)
    have hzc : ∀ m, (Builtin.zeroCells z.cells m).toList.length = m * C := fun m => by rw [Array.length_toList, size_zeroCells, hzs]
    have hmul : k * C + (n - k) * C = n * C := by rw [← Nat.add_mul]; congr 1; omega
    have hpos : 0 < (n - k) * C := Nat.mul_pos (by omega) hC
    obtain ⟨w', h2, h3⟩ := H.splice (P := P) i hi (Builtin.zeroCells z.cells (n - k)).toList (k * C) (by rw [hzc]; exact hpos) (by rw [hzc]; omega) (fun v hv => by
      have : v ∈ z.cells.toList := by
        rw [Array.mem_toList_iff] at hv ⊢
        simp [Builtin.zeroCells] at hv
        obtain ⟨a, _, rfl⟩ := hv
        have hlt' : a % z.cells.size < z.cells.size := Nat.mod_lt _ (by omega)
        rw [getElem!_pos z.cells _ hlt']
        exact Array.getElem_mem hlt'
      exact hz1 v this)
    have hf : fromAddr (some ⟨g, 0, none⟩) c k C = some ⟨g, k * C, none⟩ := by
      unfold fromAddr
      rw [if_neg (by omega), Option.map_some]
      simp only [Addr.add]
      by_cases h0 : k * C = 0 <;> simp [h0]
    refine ⟨w', ?_, ?_⟩
    · rw [hf]
      obtain ⟨d, hd⟩ : ∃ d, n - k = d + 1 := ⟨n - k - 1, by omega⟩
      rw [hd] at h2 ⊢
      simp [Builtin.clear_, run_underlying ht, hz, h2, Result.andThen]
    · have hil := (List.getElem?_eq_some_iff.1 hi).1
      have h4 := h3.cut i (m := k) (by rw [List.getElem?_set, if_pos rfl, if_pos hil]) hk
      rw [List.set_set] at h4
      have : (List.take (k * C) (xs.take (k * C) ++ (Builtin.zeroCells z.cells (n - k)).toList ++ xs.drop (k * C + (Builtin.zeroCells z.cells (n - k)).toList.length))) = xs.take (k * C) := by
        rw [List.append_assoc, List.take_append_of_le_length (by rw [List.length_take, (H.rowHas i hi).1]; omega), List.take_take, Nat.min_self]
      rw [this] at h4
      exact h4
  · obtain rfl : k = n := by omega
    refine ⟨w, ?_, ?_⟩
    · rw [Nat.sub_self]
      cases hA : fromAddr A c k C <;> simp [Builtin.clear_, run_underlying ht, Result.andThen]
    · exact H.cut i hi (Nat.le_refl _)
theorem wpList_clear_sep {ops : Array Oper} {rest : List Oper} {o : Oper} {a : Act} {Q : Exit → Act → World → Prop} (H : Sep w0 w L) (i : Nat) (hgd : o.guard = none) (x : Operand) (t : TypeId)
    (ho : o.op = .call { callee := .builtin .clear, args := #[x], argTypes := #[t] })
    {e : TypeId} {C n c k : Nat} {A : Option Addr} {xs : List Value} {z : Value} (hi : L[i]? = some (.row e C (.slice A n c) n xs)) (hx : a.eval x = .slice (fromAddr A c k C) (n - k) (c - k)) (ht : P.underlying t = some (.slice e)) (hz : ∀ w, (zeroValue e).run P w = .ok z w) (hzs : z.cells.size = C) (hz1 : ∀ v ∈ z.cells.toList, v.oneCell' = true) (hC : 0 < C) (hk : k ≤ n) (hc : n ≤ c)
    (h : ∀ w', Sep w0 w' (L.set i (.row e C (.slice A k c) k (xs.take (k * C)))) → wpList P ops Q rest (a.put o.dst (.tuple #[])) w') : wpList P ops Q (o :: rest) a w :=
  wpList_plain hgd fun _ hK => by
    obtain ⟨w', h2, h3⟩ := run_clear_sep (P := P) (ty := o.type) H i hi ht hz hzs hz1 hC hk hc
    unfold Oper.wp execOp
    simp only [ho, resolve, invoke, builtin, Sem.run_bind, Sem.run_pure, Result.andThen_ok, List.map_toArray, List.map_cons, List.map_nil, hx, h2]
    exact hK _ _ (h w' h3)
end
theorem flat_take {α : Type} {C : Nat} {cells : α → List Value} (hC : ∀ x, (cells x).length = C) (l : List α) (k : Nat) : (l.flatMap cells).take (k * C) = (l.take k).flatMap cells := by
  induction l generalizing k with
  | nil => simp
  | cons x l ih =>
    cases k with
    | zero => simp
    | succ k =>
      rw [List.take_succ_cons, List.flatMap_cons, List.flatMap_cons, ← ih k, List.take_append, hC, Nat.add_mul, Nat.one_mul, Nat.add_sub_cancel, List.take_of_length_le (by rw [hC]; omega)]
theorem flat_drop {α : Type} {C : Nat} {cells : α → List Value} (hC : ∀ x, (cells x).length = C) (l : List α) (k : Nat) : (l.flatMap cells).drop (k * C) = (l.drop k).flatMap cells := by
  induction l generalizing k with
  | nil => simp
  | cons x l ih =>
    cases k with
    | zero => simp
    | succ k =>
      rw [List.drop_succ_cons, List.flatMap_cons, ← ih k, List.drop_append, hC, Nat.add_mul, Nat.one_mul, Nat.add_sub_cancel, List.drop_of_length_le (by rw [hC]; omega), List.nil_append]
/-- one cell of one element -/
theorem flat_set1 {α : Type} {C : Nat} {cells : α → List Value} (hC : ∀ x, (cells x).length = C) {x y : α} {j : Nat} {v : Value} (hj : j < C) (hy : cells y = (cells x).set j v) : ∀ (l : List α) (k : Nat), l[k]? = some x → (l.flatMap cells).set (k * C + j) v = (l.set k y).flatMap cells
  | [], k, h => by simp at h
  | z :: l, 0, h => by
    simp at h
    subst h
    rw [List.set_cons_zero, List.flatMap_cons, List.flatMap_cons, Nat.zero_mul, Nat.zero_add, List.set_append_left _ _ (by rw [hC]; exact hj), hy]
  | z :: l, k + 1, h => by
    rw [List.set_cons_succ, List.flatMap_cons, List.flatMap_cons, List.set_append_right _ _ (by rw [hC, Nat.add_mul]; omega), hC, show (k + 1) * C + j - C = k * C + j by rw [Nat.add_mul]; omega, flat_set1 hC hj hy l k (by simpa using h)]
/-- a store of one cell of one element -/
theorem Sep.field {α : Type} {w0 w : World} {L : List It} {C : Nat} {cells : α → List Value} (hC : ∀ x, (cells x).length = C) (H : Sep w0 w L) (i : Nat) {E n c g : Nat} {l : List α} (hi : L[i]? = some (.row E C (.slice (some ⟨g, 0, none⟩) n c) n (l.flatMap cells))) (h0 : 0 < n) {k j : Nat} {x : α} (hx : l[k]? = some x) (hj : j < C) (y : α) (v : Value) (hy : cells y = (cells x).set j v) :
    Sep w0 (w.setCell ⟨g, k * C + j, none⟩ v) (L.set i (.row E C (.slice (some ⟨g, 0, none⟩) n c) n ((l.set k y).flatMap cells))) := by
  obtain ⟨g', hg, _, h⟩ := H.rowAt i hi h0
  cases hg
  have := (h (k * C + j)).2.2 v
  rwa [flat_set1 hC hj hy l k hx] at this
end Go.Proofs.YtccpkkopniadiaaDoor
