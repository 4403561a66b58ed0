/-
  Rows whose block may be longer than they (s[:n:n]): items '.rowF' of 'Sep'; read, store, append. Conditions: none beyond each theorem's own premises.
-/
import Derived.Test.YtfljbiobiobamaaSlices
namespace Go.Proofs.Ytfljbiobiobamaa
open Go.RowKit
set_option linter.unusedVariables false

/-- a slice without room, at the begin of a block that may be longer -/
def Full (w : World) (E size : Nat) (v : Value) (n : Nat) (xs : List Value) : Prop :=
  xs.length = n * size ∧ ∃ g cur, 0 < n ∧ v = .slice (some ⟨g, 0, none⟩) n n ∧ Blk w g E cur ∧ n ≤ maxLen ∧ n * size ≤ cur.length ∧ cur.take (n * size) = xs
def RowF (w : World) (E size : Nat) (v : Value) (n : Nat) (xs : List Value) : Prop := Row w E size v n xs ∨ Full w E size v n xs
theorem rowBlk_pos {a : Addr} {n c : Nat} (h : 0 < c) : rowBlk (.slice (some a) n c) = some a.block := by
  cases c with
  | zero => omega
  | succ c => rfl
theorem Full.blk {w : World} {E size n : Nat} {v : Value} {xs : List Value} (h : Full w E size v n xs) : ∃ g cur, rowBlk v = some g ∧ Blk w g E cur := by
  obtain ⟨_, g, cur, h0, rfl, hb, _⟩ := h
  exact ⟨g, cur, rowBlk_pos h0, hb⟩
theorem RowF.keep {w w' : World} {E size n : Nat} {v : Value} {xs : List Value} (hk : ∀ g, rowBlk v = some g → w'.heap[g]? = w.heap[g]?) (h : RowF w E size v n xs) : RowF w' E size v n xs := by
  rcases h with h | ⟨h1, g, cur, h0, rfl, hb, r⟩
  · exact .inl (h.keep hk)
  · refine .inr ⟨h1, g, cur, h0, rfl, ?_, r⟩
    unfold Blk at hb ⊢
    rw [hk g (rowBlk_pos h0)]
    exact hb
theorem RowF.live {w : World} {E size n : Nat} {v : Value} {xs : List Value} (h : RowF w E size v n xs) : ∀ g, rowBlk v = some g → g < w.heap.size := by
  rcases h with h | h
  · exact h.live
  · obtain ⟨g, cur, h1, h2⟩ := h.blk
    intro g' e
    rw [h1] at e
    cases e
    exact Blk.lt h2
def It.rowF (E size : Nat) (v : Value) (n : Nat) (xs : List Value) : It := ⟨rowBlk v, fun w => RowF w E size v n xs, fun w w' h hb => hb.keep h, fun w h => h.live⟩
theorem RowF.slice {w : World} {E size n : Nat} {v : Value} {xs : List Value} (h : RowF w E size v n xs) : ∃ A c, v = .slice A n c ∧ n ≤ c := by
  rcases h with h | ⟨_, g, cur, _, rfl, _⟩
  · exact h.slice
  · exact ⟨_, _, rfl, Nat.le_refl _⟩
theorem RowF.len {w : World} {E size n : Nat} {v : Value} {xs : List Value} (h : RowF w E size v n xs) : xs.length = n * size := by
  rcases h with h | h
  · exact h.1
  · exact h.1
theorem RowF.at_ {w : World} {E size n c : Nat} {A : Option Addr} {xs : List Value} (h : RowF w E size (.slice A n c) n xs) (h0 : 0 < n) :
    ∃ g, A = some ⟨g, 0, none⟩ ∧ rowBlk (.slice A n c) = some g ∧ ∀ k, (∀ u, xs[k]? = some u → w.cell? ⟨g, k, none⟩ = some u) ∧ w.frozen? ⟨g, k, none⟩ = false ∧
      ∀ u, k < n * size → RowF (w.setCell ⟨g, k, none⟩ u) E size (.slice (some ⟨g, 0, none⟩) n c) n (xs.set k u) := by
  rcases h with h | ⟨h1, g, cur, h0, hv, hb, hm, hl, ht⟩
  · obtain ⟨g, hA, hg, hk⟩ := h.at_ h0
    exact ⟨g, hA, hg, fun k => ⟨(hk k).1, (hk k).2.1, fun u _ => .inl ((hk k).2.2 u)⟩⟩
  · cases hv
    refine ⟨g, rfl, rowBlk_pos h0, fun k => ⟨fun u hu => ?_, Blk.froz hb, fun u hk => .inr ⟨by simpa using h1, g, cur.set k u, h0, rfl, Blk.set hb u, hm, by simpa using hl, ?_⟩⟩⟩
    · refine Blk.cell hb ?_
      rw [← ht, List.getElem?_take] at hu
      split at hu
      · exact hu
      · cases hu
    · rw [List.take_set, ht]
theorem RowF.rd {w : World} {E size n c : Nat} {A : Option Addr} {xs : List Value} (h : RowF w E size (.slice A n c) n xs) : Rd w w.heap.size size A n xs := by
  refine ⟨h.len, fun h0 => ?_⟩
  obtain ⟨g, rfl, hg, hk⟩ := h.at_ h0
  exact ⟨g, 0, rfl, h.live g hg, fun j u hj => by rw [Nat.zero_add]; exact (hk j).1 u hj⟩
/-- s[:m:m] -/
theorem RowF.cut {w : World} {E size n c m : Nat} {A : Option Addr} {xs : List Value} (h : RowF w E size (.slice A n c) n xs) (hm : m ≤ n) : RowF w E size (.slice A m m) m (xs.take (m * size)) := by
  cases m with
  | zero => exact .inl (by simpa using (Row.zero (w := w) (E := E) (size := size) (A := A)))
  | succ m =>
    have hle : (m + 1) * size ≤ n * size := Nat.mul_le_mul_right _ hm
    rcases h with ⟨h1, h2⟩ | ⟨h1, g, cur, h0, hv, hb, hx, hl, ht⟩
    · rcases h2 with ⟨rfl, _⟩ | ⟨g, cap, cur, hv, hh, hn, hmx, hs, ht⟩
      · omega
      · cases hv
        refine .inr ⟨by rw [List.length_take, h1]; omega, g, cur.toList, by omega, rfl, hh, by omega, ?_, ?_⟩
        · have e1 : cur.toList.length = (cap + 1) * size := by simpa using hs
          have : n * size ≤ (cap + 1) * size := Nat.mul_le_mul_right _ hn
          omega
        · rw [← ht, List.take_take, Nat.min_eq_left hle]
    · cases hv
      refine .inr ⟨by rw [List.length_take, h1]; omega, g, cur, by omega, rfl, hb, by omega, by omega, ?_⟩
      rw [← ht, List.take_take, Nat.min_eq_left hle]
section
variable {P : Program} (w : World)
theorem run_append_full (t ty e : TypeId) (i : TypeInfo) (z : Value) (size bytes : Nat) (ht : P.underlying t = some (.slice e)) (hi : P.info? e = some i) (hz : i.zero = some z)
    (hsize : i.size = size) (hby : i.bytes = bytes) (hzs : z.cells.size = size) (hsz : 0 < size)
    (v : Value) (n : Nat) (xs : List Value) (hown : RowF w e size v n xs)
    (B : Nat) (A : Option Addr) (m c : Nat) (news : List Value) (hr : Rd w B size A m news) (h1 : ∀ u ∈ news, u.oneCell' = true) (hm0 : 0 < m)
    (h63 : n + m ≤ maxLen) (hbytes : (n + m) * bytes ≤ 140737488355328) :
    ∃ v' w', (Builtin.append_ #[t, t] ty #[v, .slice A m c]).run P w = .ok v' w' ∧ RowF w' e size v' (n + m) (xs ++ news) ∧ w.grownBy w' (rowBlk v) ∧
      (rowBlk v' = none ∨ rowBlk v' = rowBlk v ∨ rowBlk v' = some w.heap.size) := by
  rcases hown with hown | ⟨hl, g, cur, h0, rfl, hb, hm, hcl, htk⟩
  · obtain ⟨v', w', h2, h3, h4, h5⟩ := run_append_row (P := P) w t ty e i z size bytes ht hi hz hsize hby hzs hsz v n xs hown B A m c news hr h1 h63 hbytes
    exact ⟨v', w', h2, .inl h3, h4, h5⟩
  · obtain ⟨b, off, hA, _, hc⟩ := hr.2 hm0
    subst hA
    have hcells : ∀ j u, news[j]? = some u → w.cell? ((⟨b, off, none⟩ : Addr).add j) = some u := by
      intro j u hu
      have := hc j u hu
      rw [← this]
      congr 1
      unfold Addr.add
      by_cases hj : j = 0 <;> simp [hj]
    have holds : ∀ j u, xs[j]? = some u → w.cell? ((⟨g, 0, none⟩ : Addr).add j) = some u := by
      intro j u hu
      have h2 : cur[j]? = some u := by
        rw [← htk, List.getElem?_take] at hu
        split at hu
        · exact hu
        · cases hu
      have := Blk.cell hb h2
      rw [← this]
      congr 1
      unfold Addr.add
      by_cases hj : j = 0 <;> simp [hj]
    subst hsize
    subst hby
    have hr' := run_append_grow (P := P) w t ty e i z ht hi hz ⟨g, 0, none⟩ n n xs hl holds ⟨b, off, none⟩ m c news hr.1 hcells (by omega) (by simp only [maxLen] at h63; omega) (growslice_fits (by omega) hbytes)
    have hge := grownCap_ge w (n + m) n e
    have hcm : grownCap w (n + m) n e ≤ maxLen := grownCap_le_maxLen w (n + m) n e h63
    have hrow : (w.drew.alloc (.cells (xs.toArray ++ news.toArray ++ Builtin.zeroCells z.cells (grownCap w (n + m) n e - (n + m))) e)).ownsRow 0 e i.size
        (.slice (some ⟨w.heap.size, 0, none⟩) (n + m) (grownCap w (n + m) n e)) (n + m) (xs ++ news) := by
      refine ⟨by simp [hr.1, hl, Nat.add_mul], .inr ⟨w.heap.size, _, _, rfl, Nat.zero_le _, heap_alloc_new w.drew _, hge, hcm, ?_, ?_⟩⟩
      · simp only [Array.size_append, List.size_toArray, size_zeroCells, hzs, hr.1, hl]
        rw [← Nat.add_mul, ← Nat.add_mul]
        congr 1
        omega
      · simp only [Array.toList_append]
        have e1 : (xs ++ news).length = (n + m) * i.size := by rw [List.length_append, hl, hr.1, Nat.add_mul]
        rw [← e1]
        exact List.take_left
    exact ⟨_, _, hr', .inl (Row.of_own hrow), ⟨rfl, rfl, rfl, by simp, fun k hk _ => Below.heap_alloc w.drew _ k hk⟩, .inr (.inr (by
      show rowBlk (.slice (some ⟨w.heap.size, 0, none⟩) (n + m) (grownCap w (n + m) n e)) = _
      exact rowBlk_pos (by omega)))⟩
end
section
variable {w0 w w' : World} {L : List It}
theorem Sep.fHas (H : Sep w0 w L) (i : Nat) {E size n : Nat} {v : Value} {xs : List Value} (hi : L[i]? = some (.rowF E size v n xs)) : RowF w E size v n xs := H.all i _ hi
theorem Sep.fAddr (H : Sep w0 w L) (i : Nat) {E size n c : Nat} {A : Option Addr} {xs : List Value} (hi : L[i]? = some (.rowF E size (.slice A n c) n xs)) (h0 : 0 < n) : ∃ g, A = some ⟨g, 0, none⟩ := by
  obtain ⟨g, h, _⟩ := (H.fHas i hi).at_ h0
  exact ⟨g, h⟩
theorem Sep.fCell (H : Sep w0 w L) (i : Nat) {E size n c g k : Nat} {xs : List Value} {u : Value} (hi : L[i]? = some (.rowF E size (.slice (some ⟨g, 0, none⟩) n c) n xs)) (hk : xs[k]? = some u) : w.cell? ⟨g, k, none⟩ = some u := by
  have hl := (H.fHas i hi).len
  have hk' := (List.getElem?_eq_some_iff.1 hk).1
  have h0 : 0 < n := by
    rcases Nat.eq_zero_or_pos n with h | h
    · subst h; simp at hl; rw [hl] at hk; simp at hk
    · exact h
  obtain ⟨g', e, _, h⟩ := (H.fHas i hi).at_ h0
  cases e
  exact (h k).1 u hk
theorem Sep.fFroz (H : Sep w0 w L) (i : Nat) {E size n c g k : Nat} {xs : List Value} (hi : L[i]? = some (.rowF E size (.slice (some ⟨g, 0, none⟩) n c) n xs)) (h0 : 0 < n) : w.frozen? ⟨g, k, none⟩ = false := by
  obtain ⟨g', e, _, h⟩ := (H.fHas i hi).at_ h0
  cases e
  exact (h k).2.1
theorem Sep.fSet (H : Sep w0 w L) (i : Nat) {E size n c g k : Nat} {xs : List Value} (hi : L[i]? = some (.rowF E size (.slice (some ⟨g, 0, none⟩) n c) n xs)) (h0 : 0 < n) (hk : k < n * size) (u : Value) :
    Sep w0 (w.setCell ⟨g, k, none⟩ u) (L.set i (.rowF E size (.slice (some ⟨g, 0, none⟩) n c) n (xs.set k u))) := by
  obtain ⟨g', e, hg, h⟩ := (H.fHas i hi).at_ h0
  cases e
  refine H.step hi ?_ ((h k).2.2 u hk) (.inr (.inl rfl))
  show w.grownBy _ (rowBlk _)
  rw [hg]
  exact grown_set w g k u
theorem Sep.fCut (H : Sep w0 w L) (i : Nat) {E size n c m : Nat} {A : Option Addr} {xs : List Value} (hi : L[i]? = some (.rowF E size (.slice A n c) n xs)) (hm : m ≤ n) : Sep w0 w (L.set i (.rowF E size (.slice A m m) m (xs.take (m * size)))) := by
  refine H.step hi (w' := w) (y := .rowF E size (.slice A m m) m (xs.take (m * size))) (World.grownBy.refl w _) ((H.fHas i hi).cut hm) ?_
  show rowBlk (.slice A m m) = none ∨ rowBlk (.slice A m m) = rowBlk (.slice A n c) ∨ _
  cases A with
  | none => exact .inl (by cases m <;> rfl)
  | some a =>
    cases m with
    | zero => exact .inl rfl
    | succ m =>
      obtain ⟨A', c', e, hc⟩ := (H.fHas i hi).slice
      cases e
      right; left
      rw [rowBlk_pos (by omega), rowBlk_pos (by omega)]
/-- a row is such a row -/
theorem Sep.toF (H : Sep w0 w L) (i : Nat) {E size n : Nat} {v : Value} {xs : List Value} (hi : L[i]? = some (.row E size v n xs)) : Sep w0 w (L.set i (.rowF E size v n xs)) :=
  H.step hi (w' := w) (y := .rowF E size v n xs) (World.grownBy.refl w _) (.inl (H.all i _ hi)) (.inr (.inl rfl))
theorem wpList_append_sepF {P : Program} {ops : Array Oper} {rest : List Oper} {o : Oper} {a : Act} {Q : Exit → Act → World → Prop} (H : Sep w0 w L) (i : Nat) (hgd : o.guard = none) (s x : Operand) (t : TypeId)
    (ho : o.op = .call { callee := .builtin .append, args := #[s, x], argTypes := #[t, t] })
    (e : TypeId) (ti : TypeInfo) (z : Value) (size bytes : Nat) (ht : P.underlying t = some (.slice e)) (hti : P.info? e = some ti) (hz : ti.zero = some z)
    (hsize : ti.size = size) (hby : ti.bytes = bytes) (hzs : z.cells.size = size) (hsz : 0 < size)
    (v : Value) (n : Nat) (xs : List Value) (hs : a.eval s = v) (hi : L[i]? = some (.rowF e size v n xs))
    (B : Nat) (A : Option Addr) (m c : Nat) (news : List Value) (hx : a.eval x = .slice A m c) (hr : Rd w B size A m news) (h1 : ∀ u ∈ news, u.oneCell' = true) (hm0 : 0 < m)
    (h63 : n + m ≤ maxLen) (hbytes : (n + m) * bytes ≤ 140737488355328)
    (h : ∀ A' c' w', n + m ≤ c' → w.heap.size ≤ w'.heap.size → Sep w0 w' (L.set i (.rowF e size (.slice A' (n + m) c') (n + m) (xs ++ news))) → wpList P ops Q rest (a.put o.dst (.slice A' (n + m) c')) w') : wpList P ops Q (o :: rest) a w :=
  wpList_plain hgd fun _ hK => by
    obtain ⟨v', w', hrun, h2, h3, h4⟩ := run_append_full (P := P) w t o.type e ti z size bytes ht hti hz hsize hby hzs hsz v n xs (H.fHas i hi) B A m c news hr h1 hm0 h63 hbytes
    obtain ⟨A', c', rfl, hc⟩ := h2.slice
    unfold Oper.wp execOp
    simp only [ho, resolve, invoke, builtin, Sem.run_bind, Sem.run_pure, Result.andThen_ok, List.map_toArray, List.map_cons, List.map_nil, hs, hx, hrun]
    refine hK _ _ (h A' c' w' hc h3.size (H.step hi h3 (y := .rowF e size _ _ _) h2 ?_))
    rcases h4 with hb | hb | hb
    · exact .inl hb
    · exact .inr (.inl hb)
    · exact .inr (.inr ⟨_, hb, Nat.le_refl _⟩)
end
end Go.Proofs.Ytfljbiobiobamaa
