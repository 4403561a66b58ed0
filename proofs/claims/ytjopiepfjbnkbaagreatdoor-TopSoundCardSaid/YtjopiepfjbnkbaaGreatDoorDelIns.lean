/-
  Copying into a row of the call's own, striking an element, putting one in: what the builtins of slices.Delete and slices.Insert do to the row. Conditions: none beyond each theorem's own premises.
-/
import Derived.Test.YtjopiepfjbnkbaaGreatDoorRoom
import Derived.Shelf.Spec.SlicesInsert
import Derived.Lib.AppendZerosOnto
namespace Go.Proofs.YtjopiepfjbnkbaaGreatDoor
open Go.RowKit
set_option linter.unusedVariables false

theorem addr_add_lit (b off j : Nat) : (⟨b, off, none⟩ : Addr).add j = ⟨b, off + j, none⟩ := by
  unfold Addr.add
  by_cases h : j = 0 <;> simp [h]
/-- copy(d, s): m elements into row i, from its element k on -/
theorem run_copy_sep {P : Program} {w0 w : World} {L : List It} (H : Sep w0 w L) (i : Nat) {dT sT e : TypeId} {C : Nat} (ht : P.underlying dT = some (.slice e)) (hC : ∀ w, (sizeOf e).run P w = .ok C w) (hC0 : 0 < C)
    {g n c : Nat} {xs : List Value} (hi : L[i]? = some (.row e C (.slice (some ⟨g, 0, none⟩) n c) n xs)) (k m dl sl B : Nat) (A : Option Addr) (news : List Value) (hm : Nat.min sl dl = m) (hm0 : 0 < m) (hr : Rd w B C A m news)
    (hk : k + m ≤ n) (h1 : ∀ v ∈ news, v.oneCell' = true) :
    ∃ w', (∀ ty dc sc, (Builtin.copy_ #[dT, sT] ty #[.slice (some ⟨g, k * C, none⟩) dl dc, .slice A sl sc]).run P w = .ok (goInt m) w') ∧
      Sep w0 w' (L.set i (.row e C (.slice (some ⟨g, 0, none⟩) n c) n (xs.take (k * C) ++ news ++ xs.drop (k * C + m * C)))) := by
  obtain ⟨b, off, rfl, hb, hc⟩ := hr.2 hm0
  have hl := hr.1
  have hpos : 0 < news.length := by rw [hl]; exact Nat.mul_pos hm0 hC0
  obtain ⟨w', h2, h3⟩ := H.splice (P := P) i hi news (k * C) hpos (by rw [hl, ← Nat.add_mul]; exact Nat.mul_le_mul_right _ hk) h1
  refine ⟨w', fun ty dc sc => ?_, by rw [hl] at h3; exact h3⟩
  have hld := run_loadCells_list (P := P) w ⟨b, off, none⟩ news (fun j v hj => by rw [addr_add_lit]; exact hc j v hj)
  rw [hl] at hld
  simp [Builtin.copy_, run_underlying ht, Builtin.lenOf, Builtin.firstCells, hC, hm, hld, h2]

/-- a row of new memory, in a list -/
theorem Sep.madeC {w0 w w' : World} {L : List It} (H : Sep w0 w L) (E C n cap : Nat) (cur : Array Value) (xs : List Value) (hw : w' = w.alloc (.cells cur E) ∨ w' = w.drew.alloc (.cells cur E)) (hs : cur.size = cap * C) (hn : n ≤ cap) (h0 : 0 < n) (hm : cap ≤ maxLen) (hx : xs.length = n * C) (ht : cur.toList.take (n * C) = xs) :
    Sep w0 w' (L ++ [.row E C (.slice (some ⟨w.heap.size, 0, none⟩) n cap) n xs]) := by
  have H' : Sep w0 w' L := by
    rcases hw with rfl | rfl
    · exact H.alloc _
    · exact H.drew.alloc _
  have hh : w'.heap[w.heap.size]? = some (.cells cur E (0, 0)) := by
    rcases hw with rfl | rfl
    · exact heap_alloc_new w _
    · exact heap_alloc_new w.drew _
  obtain ⟨cap, rfl⟩ : ∃ c, cap = c + 1 := ⟨cap - 1, by omega⟩
  refine H'.push (y := .row E C _ n xs) ⟨hx, .inr ⟨w.heap.size, cap, cur, rfl, hh, hn, hm, hs, ht⟩⟩ (fun g e => ?_)
  have e' : rowBlk (.slice (some ⟨w.heap.size, 0, none⟩) n (cap + 1)) = some g := e
  simp [rowBlk] at e'
  subst e'
  exact ⟨H.below.size, fun i x hx e => by have := x.live w (H.all i x hx) _ e; omega⟩

/-- append(s[:i], make(T, k)...) where there is no room: a new row -/
theorem run_append_zeros_sep {P : Program} {w0 w : World} {L : List It} (H : Sep w0 w L) {t tn e : TypeId} {ti : TypeInfo} {z : Value} {C bytes : Nat} (ht : P.underlying t = some (.slice e)) (htn : P.underlying tn = some (.int .i64)) (hti : P.info? e = some ti) (hz : ti.zero = some z)
    (hsize : ti.size = C) (hby : ti.bytes = bytes) (hzs : z.cells.size = C) (hC0 : 0 < C) {A : Option Addr} {n c B : Nat} {xs : List Value} (hr : Rd w B C A n xs) (k : Nat) (hk : 0 < k) (hg : c < n + k) (h63 : n + k ≤ maxLen) (hbytes : (n + k) * bytes ≤ 140737488355328) :
    ∃ c' zs w', (∀ ty, (Builtin.append_ #[t, tn] ty #[.slice A n c, .int .i64 (k : Int)]).run P w = .ok (.slice (some ⟨w.heap.size, 0, none⟩) (n + k) c') w') ∧ zs.length = k * C ∧ n + k ≤ c' ∧ c' ≤ maxLen ∧
      Sep w0 w' (L ++ [.row e C (.slice (some ⟨w.heap.size, 0, none⟩) (n + k) c') (n + k) (xs ++ zs)]) := by
  subst hsize
  subst hby
  have hold : (Builtin.firstCells ti.size n (.slice A n c)).run P w.drew = .ok xs.toArray w.drew := by
    rcases Nat.eq_zero_or_pos n with h0 | h0
    · subst h0
      have hx : xs = [] := List.eq_nil_of_length_eq_zero (by simpa using hr.1)
      subst hx
      cases A <;> simp [Builtin.firstCells, loadCells, loadCellsFrom]
    · obtain ⟨b, off, rfl, hb, hc⟩ := hr.2 h0
      exact run_firstCells_some w.drew ti.size n ⟨b, off, none⟩ n c xs hr.1 (fun j v hj => by rw [addr_add_lit]; exact hc j v hj)
  have hkb : k * ti.bytes ≤ (n + k) * ti.bytes := Nat.mul_le_mul_right _ (by omega)
  have hrun := fun ty => Lib.run_append_grow_zeros (P := P) w t tn ty e ti z .i64 .i64 ht htn hti hz A n c xs hold k hk hC0 hg (by simp only [maxLen] at h63; omega) (by omega) (growslice_fits hg hbytes)
  have hge := grownCap_ge w (n + k) c e
  have hcm := grownCap_le_maxLen w (n + k) c e h63
  have hzl : (Builtin.zeroCells z.cells k).toList.length = k * ti.size := by rw [Array.length_toList, size_zeroCells, hzs]
  refine ⟨_, (Builtin.zeroCells z.cells k).toList, _, hrun, hzl, hge, hcm, ?_⟩
  refine H.madeC e ti.size (n + k) _ _ (xs ++ (Builtin.zeroCells z.cells k).toList) (.inr rfl) ?_ hge (by omega) hcm ?_ ?_
  · rw [Array.size_append, Array.size_append, size_zeroCells, size_zeroCells, hzs, List.size_toArray, hr.1, ← Nat.add_mul, ← Nat.add_mul]
    congr 1
    omega
  · rw [List.length_append, hr.1, hzl, Nat.add_mul]
  · have e1 : (xs ++ (Builtin.zeroCells z.cells k).toList).length = (n + k) * ti.size := by rw [List.length_append, hr.1, hzl, Nat.add_mul]
    simp only [Array.toList_append]
    rw [← e1]
    exact List.take_left

theorem shift_cells {C n i : Nat} (xs ys v : List Value) (hx : xs.length = n * C) (hy : ys.length = C) (hv : v.length = C) (hi : i ≤ n) :
    ((xs ++ ys).take ((i + 1) * C) ++ xs.drop (i * C) ++ (xs ++ ys).drop ((i + 1) * C + (n - i) * C)).take (i * C) ++ v ++ ((xs ++ ys).take ((i + 1) * C) ++ xs.drop (i * C) ++ (xs ++ ys).drop ((i + 1) * C + (n - i) * C)).drop (i * C + 1 * C) = xs.take (i * C) ++ v ++ xs.drop (i * C) := by
  have hin : i * C ≤ n * C := Nat.mul_le_mul_right _ hi
  have e1 : (i + 1) * C + (n - i) * C = (n + 1) * C := by rw [← Nat.add_mul]; congr 1; omega
  have e2 : (i + 1) * C = i * C + C := by rw [Nat.add_mul, Nat.one_mul]
  have e3 : (n + 1) * C = n * C + C := by rw [Nat.add_mul, Nat.one_mul]
  have l0 : (xs ++ ys).length = n * C + C := by rw [List.length_append, hx, hy]
  rw [e1, List.drop_of_length_le (l := xs ++ ys) (by rw [l0]; omega), List.append_nil, e2, Nat.one_mul]
  have l1 : ((xs ++ ys).take (i * C + C)).length = i * C + C := by rw [List.length_take, l0]; omega
  congr 1
  · rw [List.take_append_of_le_length (by omega), List.take_take, Nat.min_eq_left (by omega), List.take_append_of_le_length (by omega)]
  · have := List.drop_left (l₁ := (xs ++ ys).take (i * C + C)) (l₂ := xs.drop (i * C))
    rw [l1] at this
    exact this
theorem grow_cells {C n i : Nat} (xs zs v : List Value) (hx : xs.length = n * C) (hz : zs.length = (n + 1 - i) * C) (hv : v.length = C) (hi : i ≤ n) :
    ((xs.take (i * C) ++ zs).take (i * C) ++ v ++ (xs.take (i * C) ++ zs).drop (i * C + 1 * C)).take ((i + 1) * C) ++ xs.drop (i * C) ++ ((xs.take (i * C) ++ zs).take (i * C) ++ v ++ (xs.take (i * C) ++ zs).drop (i * C + 1 * C)).drop ((i + 1) * C + (n - i) * C) = xs.take (i * C) ++ v ++ xs.drop (i * C) := by
  have hin : i * C ≤ n * C := Nat.mul_le_mul_right _ hi
  have e1 : (i + 1) * C + (n - i) * C = (n + 1) * C := by rw [← Nat.add_mul]; congr 1; omega
  have e2 : (i + 1) * C = i * C + C := by rw [Nat.add_mul, Nat.one_mul]
  have e3 : (n + 1) * C = n * C + C := by rw [Nat.add_mul, Nat.one_mul]
  have e4 : i * C + (n + 1 - i) * C = (n + 1) * C := by rw [← Nat.add_mul]; congr 1; omega
  have l0 : (xs.take (i * C)).length = i * C := by rw [List.length_take, hx]; omega
  have t1 : (xs.take (i * C) ++ zs).take (i * C) = xs.take (i * C) := by
    have := List.take_left (l₁ := xs.take (i * C)) (l₂ := zs)
    rw [l0] at this
    exact this
  have t2 : ((xs.take (i * C) ++ zs).drop (i * C + 1 * C)).length = (n - i) * C := by
    have e5 : (n - i) * C = n * C - i * C := Nat.sub_mul _ _ _
    rw [List.length_drop, List.length_append, l0, hz]; omega
  rw [t1, e1]
  have l1 : (xs.take (i * C) ++ v).length = i * C + C := by rw [List.length_append, l0, hv]
  have l2 : (xs.take (i * C) ++ v ++ (xs.take (i * C) ++ zs).drop (i * C + 1 * C)).length = (n + 1) * C := by
    rw [List.length_append, l1, t2, ← e1, e2]
  rw [List.drop_of_length_le (l := xs.take (i * C) ++ v ++ (xs.take (i * C) ++ zs).drop (i * C + 1 * C)) (by rw [l2]; exact Nat.le_refl _), List.append_nil]
  congr 1
  rw [e2]
  have := List.take_left (l₁ := xs.take (i * C) ++ v) (l₂ := (xs.take (i * C) ++ zs).drop (i * C + 1 * C))
  rw [l1] at this
  exact this
theorem fromAddr_some (g c k C : Nat) (h : c ≠ k) : fromAddr (some ⟨g, 0, none⟩) c k C = some ⟨g, k * C, none⟩ := by
  unfold fromAddr
  rw [if_neg h, Option.map_some, addr_add_lit, Nat.zero_add]

theorem run_append_none {P : Program} (w : World) {t ty e : TypeId} {ti : TypeInfo} (ht : P.underlying t = some (.slice e)) (hti : P.info? e = some ti) (a : Addr) (n c c' : Nat) (A : Option Addr) (hn : n ≤ c) :
    (Builtin.append_ #[t, t] ty #[.slice (some a) n c, .slice A 0 c']).run P w = .ok (.slice (some a) n c) w := by
  cases A <;> simp [Builtin.append_, run_underlying ht, sizeOf, typeInfo, hti, Builtin.lenOf, Builtin.firstCells, storeCells, loadCells, loadCellsFrom, hn]
theorem lh_run {P : Program} {t e : TypeId} {C : Nat} (ht' : P.underlying t = some (.slice e)) (hC : ∀ w, (sizeOf e).run P w = .ok C w) (A : Option Addr) (n c l h : Nat) (h1 : l ≤ h) (h2 : h ≤ c) (w : World) :
    (Instr.slice t (.slice A n c) (some (.int .i64 (l : Int))) (some (.int .i64 (h : Int))) none).run P w = .ok (.slice (fromAddr A c l C) (h - l) (c - l)) w := by
  have he : P.elem t = e := by unfold Program.elem; rw [ht']
  have ht : P.underlying t = some (.slice (P.elem t)) := by rw [he]; exact ht'
  rw [run_slice_lh w t A n c ht .i64 .i64 (l : Int) (h : Int) (by omega) (by omega) (by omega), he, hC]
  simp [Result.andThen, sliced, fromAddr]
theorem lhm_run {P : Program} {t e : TypeId} {C : Nat} (ht' : P.underlying t = some (.slice e)) (hC : ∀ w, (sizeOf e).run P w = .ok C w) (A : Option Addr) (n c l h m : Nat) (h1 : l ≤ h) (h2 : h ≤ m) (h3 : m ≤ c) :
    ∃ v, ∀ w, (Instr.slice t (.slice A n c) (some (.int .i64 (l : Int))) (some (.int .i64 (h : Int))) (some (.int .i64 (m : Int)))).run P w = .ok v w := by
  have he : P.elem t = e := by unfold Program.elem; rw [ht']
  have ht : P.underlying t = some (.slice (P.elem t)) := by rw [he]; exact ht'
  exact ⟨sliced A l h m C, fun w => by
    rw [run_slice_lhm w t A n c ht .i64 .i64 .i64 (l : Int) (h : Int) (m : Int) (by omega) (by omega) (by omega) (by omega), he, hC]
    simp [Result.andThen]⟩

/-- an element struck: append(s[:i], s[i+1:]...), then clear(s[m:n]) -/
theorem strike_sep {P : Program} {w0 w : World} {L : List It} (H : Sep w0 w L) (j : Nat) {t e : TypeId} {ti : TypeInfo} {z : Value} {C : Nat} (ht : P.underlying t = some (.slice e)) (hti : P.info? e = some ti) (hz : ti.zero = some z) (hsize : ti.size = C) (hzs : z.cells.size = C) (hz1 : ∀ v ∈ z.cells.toList, v.oneCell' = true) (hC0 : 0 < C)
    {A : Option Addr} {m c i : Nat} {xs : List Value} (hj : L[j]? = some (.row e C (.slice A (m + 1) c) (m + 1) xs)) (hi : i ≤ m) (hmc : m + 1 ≤ c) (h1 : ∀ u ∈ xs, u.oneCell' = true) :
    ∃ (v : Value) (A2 A3 : Option Addr) (d c2 c3 : Nat),
      (∀ w, (Instr.slice t (.slice A (m + 1) c) (some (.int .i64 (i : Int))) (some (.int .i64 ((i : Int) + 1))) (some (.int .i64 ((m + 1 : Nat) : Int)))).run P w = .ok v w) ∧
      (∀ w, (Instr.slice t (.slice A (m + 1) c) none (some (.int .i64 (i : Int))) none).run P w = .ok (.slice A i c) w) ∧
      (∀ w, (Instr.slice t (.slice A (m + 1) c) (some (.int .i64 ((i : Int) + 1))) none none).run P w = .ok (.slice A2 d c2) w) ∧
      (∀ w, (Instr.slice t (.slice A m c) (some (.int .i64 (m : Int))) (some (.int .i64 ((m + 1 : Nat) : Int))) none).run P w = .ok (.slice A3 1 c3) w) ∧
      ∀ W, Below w.heap.size w W → ∃ w2 w3, (∀ ty, (Builtin.append_ #[t, t] ty #[.slice A i c, .slice A2 d c2]).run P W = .ok (.slice A m c) w2) ∧ (∀ ty, (Builtin.clear_ #[t] ty #[.slice A3 1 c3]).run P w2 = .ok (.tuple #[]) w3) ∧
        Sep w0 w3 (L.set j (.row e C (.slice A m c) m (xs.take (i * C) ++ xs.drop ((i + 1) * C)))) := by
  have hC : ∀ w, (sizeOf e).run P w = .ok C w := size_of_info hti hsize
  have hzv : ∀ w, (zeroValue e).run P w = .ok z w := fun w => by simp [zeroValue, typeInfo, hti, hz]
  obtain ⟨v, hv⟩ := lhm_run ht hC A (m + 1) c i (i + 1) (m + 1) (by omega) (by omega) hmc
  have hf := from_run ht hC A (m + 1) c (i + 1) (by omega)
  have hl := lh_run ht hC A m c m (m + 1) (by omega) hmc
  obtain ⟨g, rfl⟩ := row_base (H.rowHas j hj) (by omega)
  have hxl : xs.length = (m + 1) * C := (H.rowHas j hj).1
  have hjl := (List.getElem?_eq_some_iff.1 hj).1
  refine ⟨v, fromAddr (some ⟨g, 0, none⟩) c (i + 1) C, fromAddr (some ⟨g, 0, none⟩) c m C, m - i, c - (i + 1), c - m, fun w => by have := hv w; simpa using this, upto_run ht hC _ _ _ _ (by omega), fun w => by have := hf w; rw [show m + 1 - (i + 1) = m - i by omega] at this; simpa using this, fun w => by have := hl w; rw [show m + 1 - m = 1 by omega] at this; exact this, fun W hW => ?_⟩
  have HW := H.later hW
  have hrd : Rd W W.heap.size C (fromAddr (some ⟨g, 0, none⟩) c (i + 1) C) (m - i) (xs.drop ((i + 1) * C)) := by
    have := rd_fromAddr (HW.rd j hj) (k := i + 1) (by omega) hmc
    rwa [show m + 1 - (i + 1) = m - i by omega] at this
  have HC := HW.cut j hj (m := i) (by omega)
  have hj2 : (L.set j (.row e C (.slice (some ⟨g, 0, none⟩) i c) i (xs.take (i * C))))[j]? = some (.row e C (.slice (some ⟨g, 0, none⟩) i c) i (xs.take (i * C))) := by rw [List.getElem?_set, if_pos rfl, if_pos hjl]
  have happ : ∃ w2, (∀ ty, (Builtin.append_ #[t, t] ty #[.slice (some ⟨g, 0, none⟩) i c, .slice (fromAddr (some ⟨g, 0, none⟩) c (i + 1) C) (m - i) (c - (i + 1))]).run P W = .ok (.slice (some ⟨g, 0, none⟩) m c) w2) ∧
      Sep w0 w2 (L.set j (.row e C (.slice (some ⟨g, 0, none⟩) m c) m (xs.take (i * C) ++ xs.drop ((i + 1) * C)))) := by
    rcases Nat.eq_zero_or_pos (m - i) with h0 | h0
    · obtain rfl : i = m := by omega
      refine ⟨W, fun ty => by rw [Nat.sub_self]; exact run_append_none W ht hti _ _ _ _ _ (by omega), ?_⟩
      rw [List.drop_of_length_le (by omega), List.append_nil]
      exact HC
    · obtain ⟨b, off, hA, hb, hcc⟩ := hrd.2 h0
      rw [hA] at hrd ⊢
      obtain ⟨w2, h2, h3⟩ := run_append_room_sep (P := P) HC j t t e ti C ht hti hsize hj2 _ b off (m - i) (c - (i + 1)) _ hrd h0 (fun u hu => h1 u (List.mem_of_mem_drop hu)) (by omega)
      rw [show i + (m - i) = m by omega] at h2 h3
      rw [List.set_set] at h3
      exact ⟨w2, fun ty => h2, h3⟩
  obtain ⟨w2, h2, S2⟩ := happ
  have hj3 : (L.set j (.row e C (.slice (some ⟨g, 0, none⟩) m c) m (xs.take (i * C) ++ xs.drop ((i + 1) * C))))[j]? = some (.row e C (.slice (some ⟨g, 0, none⟩) m c) m (xs.take (i * C) ++ xs.drop ((i + 1) * C))) := by rw [List.getElem?_set, if_pos rfl, if_pos hjl]
  obtain ⟨ys, hy, S3⟩ := S2.extend j hj3 (m := 1) hmc
  rw [List.set_set] at S3
  obtain ⟨w3, h3, S4⟩ := run_clear_sep (P := P) (ty := t) S3 j (k := m) (by rw [List.getElem?_set, if_pos rfl, if_pos hjl]) ht hzv hzs hz1 hC0 (by omega) hmc
  rw [List.set_set, List.take_append_of_le_length (by rw [(S2.rowHas j hj3).1]; omega), List.take_of_length_le (by rw [(S2.rowHas j hj3).1]; omega)] at S4
  refine ⟨w2, w3, h2, fun ty => ?_, S4⟩
  rw [show m + 1 - m = 1 by omega] at h3
  exact h3

/-- an element put in where there is room -/
theorem put_room_sep {P : Program} {w0 w : World} {L : List It} {t e : TypeId} {ti : TypeInfo} {C : Nat} (ht : P.underlying t = some (.slice e)) (hti : P.info? e = some ti) (hsize : ti.size = C) (hC0 : 0 < C)
    {A : Option Addr} {n c i gv tv : Nat} {xs v : List Value} (H : Sep w0 w (.row e C (.slice A n c) n xs :: .cells gv tv v :: L)) (hv : v.length = C) (hv1 : ∀ u ∈ v, u.oneCell' = true) (hi : i < n) (hnc : n + 1 ≤ c) (h1 : ∀ u ∈ xs, u.oneCell' = true) :
    ∃ (g : Nat) (Ai Aj : Option Addr) (di ci cj : Nat) (r1 r2 : Value), A = some ⟨g, 0, none⟩ ∧ gv ≠ g ∧ 0 < di ∧ Aj = some ⟨g, (i + 1) * C, none⟩ ∧
      (∀ w, (Instr.slice t (.slice A n c) none (some (.int .i64 ((n : Int) + 1))) none).run P w = .ok (.slice A (n + 1) c) w) ∧
      (∀ w, (Instr.slice t (.slice A (n + 1) c) (some (.int .i64 ((i : Int) + 1))) none none).run P w = .ok (.slice Aj di cj) w) ∧
      (∀ w, (Instr.slice t (.slice A (n + 1) c) (some (.int .i64 (i : Int))) none none).run P w = .ok (.slice Ai (di + 1) ci) w) ∧
      ∀ W, Below w.heap.size w W → ∃ w2 w3, (∀ ty, (Builtin.copy_ #[t, t] ty #[.slice Aj di cj, .slice Ai (di + 1) ci]).run P W = .ok r1 w2) ∧ (∀ ty, (Builtin.copy_ #[t, t] ty #[.slice Ai (di + 1) ci, .slice (some ⟨gv, 0, none⟩) 1 1]).run P w2 = .ok r2 w3) ∧
        Sep w0 w3 (.row e C (.slice A (n + 1) c) (n + 1) (xs.take (i * C) ++ v ++ xs.drop (i * C)) :: .cells gv tv v :: L) := by
  have hC : ∀ w, (sizeOf e).run P w = .ok C w := size_of_info hti hsize
  obtain ⟨g, rfl⟩ := row_base (H.rowHas 0 rfl) (by omega)
  have hxl : xs.length = n * C := (H.rowHas 0 rfl).1
  obtain ⟨ys, hy, HE⟩ := H.extend 0 rfl (m := 1) hnc
  obtain ⟨g', hg', _, _⟩ := HE.rowAt 0 rfl (by omega)
  cases hg'
  have hne : gv ≠ g := by
    obtain ⟨cap, rfl⟩ : ∃ cap, c = cap + 1 := ⟨c - 1, by omega⟩
    exact fun e' => (HE.ne 0 1 (by decide) (x := .row _ _ _ _ _) (y := .cells _ _ _) rfl rfl (g := g) (g' := gv) rfl rfl) e'.symm
  have hu := upto_run ht hC (some ⟨g, 0, none⟩) n c (n + 1) hnc
  have hfj := from_run ht hC (some ⟨g, 0, none⟩) (n + 1) c (i + 1) (by omega)
  have hfi := from_run ht hC (some ⟨g, 0, none⟩) (n + 1) c i (by omega)
  rw [fromAddr_some g c (i + 1) C (by omega)] at hfj
  rw [fromAddr_some g c i C (by omega)] at hfi
  refine ⟨g, some ⟨g, i * C, none⟩, some ⟨g, (i + 1) * C, none⟩, n - i, c - i, c - (i + 1), goInt ((n - i : Nat) : Int), goInt ((1 : Nat) : Int), rfl, hne, by omega, rfl, fun w => by have := hu w; simpa using this, fun w => by have := hfj w; rw [show n + 1 - (i + 1) = n - i by omega] at this; simpa using this, fun w => by have := hfi w; rw [show n + 1 - i = n - i + 1 by omega] at this; exact this, fun W hW => ?_⟩
  have HW := HE.later hW
  have hrd : Rd W W.heap.size C (some ⟨g, i * C, none⟩) (n - i) (xs.drop (i * C)) := by
    have := rd_fromAddr (H.later hW |>.rd 0 rfl) (k := i) (by omega) (show n ≤ c by omega)
    rwa [fromAddr_some g c i C (by omega)] at this
  obtain ⟨w2, h2, S2⟩ := run_copy_sep (P := P) HW 0 (dT := t) (sT := t) ht hC hC0 rfl (i + 1) (n - i) (n - i) (n - i + 1) _ _ _ (by simp only [Nat.min_def]; split <;> omega) (by omega) hrd (by omega) (fun u hu => h1 u (List.mem_of_mem_drop hu))
  have hv0 : Rd w2 w2.heap.size C (some ⟨gv, 0, none⟩) 1 v := ⟨by rw [hv, Nat.one_mul], fun _ => ⟨gv, 0, rfl, Blk.lt (S2.blk 1 rfl), fun j u hj => by rw [Nat.zero_add]; exact S2.cell 1 rfl hj⟩⟩
  obtain ⟨w3, h3, S3⟩ := run_copy_sep (P := P) S2 0 (dT := t) (sT := t) ht hC hC0 rfl i 1 (n - i + 1) 1 _ _ _ (by simp only [Nat.min_def]; split <;> omega) (by omega) hv0 (by omega) hv1
  refine ⟨w2, w3, fun ty => h2 ty _ _, fun ty => h3 ty _ _, ?_⟩
  have := shift_cells (n := n) (i := i) xs ys v hxl (by rw [hy, Nat.one_mul]) hv (by omega)
  simp only [List.set_cons_zero] at S3
  rw [this] at S3
  exact S3

/-- an element put in where there is no room -/
theorem put_grow_sep {P : Program} {w0 w : World} {L : List It} {t tn e : TypeId} {ti : TypeInfo} {z : Value} {C bytes : Nat} (ht : P.underlying t = some (.slice e)) (htn : P.underlying tn = some (.int .i64)) (hti : P.info? e = some ti) (hz : ti.zero = some z) (hsize : ti.size = C) (hby : ti.bytes = bytes) (hzs : z.cells.size = C) (hC0 : 0 < C)
    {A : Option Addr} {n i gv tv : Nat} {xs v : List Value} (H : Sep w0 w (.row e C (.slice A n n) n xs :: .cells gv tv v :: L)) (hv : v.length = C) (hv1 : ∀ u ∈ v, u.oneCell' = true) (hi : i < n) (h1 : ∀ u ∈ xs, u.oneCell' = true) (h63 : n + 1 ≤ maxLen) (hbytes : (n + 1) * bytes ≤ 140737488355328) :
    ∃ (A2 Ai Aj As : Option Addr) (c2 di ci cj cs : Nat) (w1 w2 : World) (r1 r2 : Value), n + 1 ≤ c2 ∧
      (∀ w, (Instr.slice t (.slice A n n) none (some (.int .i64 (i : Int))) none).run P w = .ok (.slice A i n) w) ∧
      (∀ ty, (Builtin.append_ #[t, tn] ty #[.slice A i n, .int .i64 ((n : Int) + 1 - (i : Int))]).run P w = .ok (.slice A2 (n + 1) c2) w1) ∧
      (∀ w, (Instr.slice t (.slice A2 (n + 1) c2) (some (.int .i64 (i : Int))) none none).run P w = .ok (.slice Ai (di + 1) ci) w) ∧
      (∀ w, (Instr.slice t (.slice A2 (n + 1) c2) (some (.int .i64 ((i : Int) + 1))) none none).run P w = .ok (.slice Aj di cj) w) ∧
      (∀ w, (Instr.slice t (.slice A n n) (some (.int .i64 (i : Int))) none none).run P w = .ok (.slice As di cs) w) ∧
      (∀ ty, (Builtin.copy_ #[t, t] ty #[.slice Ai (di + 1) ci, .slice (some ⟨gv, 0, none⟩) 1 1]).run P w1 = .ok r1 w2) ∧
      ∀ W, Below w2.heap.size w2 W → ∃ w3, (∀ ty, (Builtin.copy_ #[t, t] ty #[.slice Aj di cj, .slice As di cs]).run P W = .ok r2 w3) ∧
        Sep w0 w3 (.row e C (.slice A2 (n + 1) c2) (n + 1) (xs.take (i * C) ++ v ++ xs.drop (i * C)) :: .cells gv tv v :: L) := by
  have hC : ∀ w, (sizeOf e).run P w = .ok C w := size_of_info hti hsize
  have hxl : xs.length = n * C := (H.rowHas 0 rfl).1
  have hrd := H.rd 0 rfl
  have hri : Rd w w.heap.size C A i (xs.take (i * C)) := by
    obtain ⟨b, off, rfl, hb, hc⟩ := hrd.2 (by omega)
    refine ⟨by rw [List.length_take, hxl]; exact Nat.min_eq_left (Nat.mul_le_mul_right _ (by omega)), fun _ => ⟨b, off, rfl, hb, fun j u hj => hc j u ?_⟩⟩
    rw [List.getElem?_take] at hj
    split at hj
    · exact hj
    · cases hj
  obtain ⟨c2, zs, w1, ha, hzl, hc2, hcm, S1⟩ := run_append_zeros_sep (P := P) H ht htn hti hz hsize hby hzs hC0 (A := A) (n := i) (c := n) hri (n + 1 - i) (by omega) (by omega) (by omega) (by rw [show i + (n + 1 - i) = n + 1 by omega]; exact hbytes)
  rw [show i + (n + 1 - i) = n + 1 by omega] at ha hc2 S1
  have hkk : ((n + 1 - i : Nat) : Int) = (n : Int) + 1 - (i : Int) := by omega
  rw [hkk] at ha
  have hu := upto_run ht hC A n n i (by omega)
  have hfj := from_run ht hC (some ⟨w.heap.size, 0, none⟩) (n + 1) c2 (i + 1) (by omega)
  have hfi := from_run ht hC (some ⟨w.heap.size, 0, none⟩) (n + 1) c2 i (by omega)
  have hfs := from_run ht hC A n n i (by omega)
  rw [fromAddr_some w.heap.size c2 (i + 1) C (by omega)] at hfj
  rw [fromAddr_some w.heap.size c2 i C (by omega)] at hfi
  have S1' : Sep w0 w1 (.row e C (.slice (some ⟨w.heap.size, 0, none⟩) (n + 1) c2) (n + 1) (xs.take (i * C) ++ zs) :: .cells gv tv v :: .row e C (.slice A n n) n xs :: L) := by
    refine S1.pick_ (fun k => if k = 0 then L.length + 2 else if k = 2 then 0 else if k = 1 then 1 else k - 1) (fun k x hx => ?_) (fun a b ha hb hab => ?_)
    · rcases k with _ | _ | _ | k
      · simp at hx
        subst hx
        simp
      · simpa using hx
      · simpa using hx
      · have hkl := (List.getElem?_eq_some_iff.1 hx).1
        simp at hkl hx
        rw [if_neg (by omega), if_neg (by omega), if_neg (by omega), List.getElem?_append_left (by simp; omega)]
        simpa using hx
    · simp at ha hb
      rcases a with _ | _ | _ | a <;> rcases b with _ | _ | _ | b <;> simp at hab <;> omega
  have hv0 : Rd w1 w1.heap.size C (some ⟨gv, 0, none⟩) 1 v := ⟨by rw [hv, Nat.one_mul], fun _ => ⟨gv, 0, rfl, Blk.lt (S1'.blk 1 rfl), fun j u hj => by rw [Nat.zero_add]; exact S1'.cell 1 rfl hj⟩⟩
  obtain ⟨w2, h2, S2⟩ := run_copy_sep (P := P) S1' 0 (dT := t) (sT := t) ht hC hC0 rfl i 1 (n - i + 1) 1 _ _ _ (by simp only [Nat.min_def]; split <;> omega) (by omega) hv0 (by omega) hv1
  refine ⟨some ⟨w.heap.size, 0, none⟩, some ⟨w.heap.size, i * C, none⟩, some ⟨w.heap.size, (i + 1) * C, none⟩, fromAddr A n i C, c2, n - i, c2 - i, c2 - (i + 1), n - i, w1, w2, goInt ((1 : Nat) : Int), goInt ((n - i : Nat) : Int), hc2, hu, fun ty => ?_, fun w => by have := hfi w; rw [show n + 1 - i = n - i + 1 by omega] at this; exact this, fun w => by have := hfj w; rw [show n + 1 - (i + 1) = n - i by omega] at this; simpa using this, hfs, fun ty => h2 ty _ _, fun W hW => ?_⟩
  · exact ha ty
  have SW := S2.later hW
  have hrs : Rd W W.heap.size C (fromAddr A n i C) (n - i) (xs.drop (i * C)) := rd_fromAddr (SW.rd 2 rfl) (by omega) (Nat.le_refl _)
  obtain ⟨w3, h3, S3⟩ := run_copy_sep (P := P) SW 0 (dT := t) (sT := t) ht hC hC0 rfl (i + 1) (n - i) (n - i) (n - i) _ _ _ (by simp only [Nat.min_def]; split <;> omega) (by omega) hrs (by omega) (fun u hu => h1 u (List.mem_of_mem_drop hu))
  refine ⟨w3, fun ty => h3 ty _ _, ?_⟩
  have hg := grow_cells (n := n) (i := i) xs zs v hxl hzl hv (by omega)
  simp only [List.set_cons_zero] at S3
  rw [hg] at S3
  refine S3.pick_ (fun k => if k ≤ 1 then k else k + 1) (fun k x hx => ?_) (fun a b ha hb hab => ?_)
  · rcases k with _ | _ | k
    · simpa using hx
    · simpa using hx
    · simp at hx
      rw [if_neg (by omega)]
      simpa using hx
  · split at hab <;> split at hab <;> omega
end Go.Proofs.YtjopiepfjbnkbaaGreatDoor
