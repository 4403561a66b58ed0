/-
  slices.Insert of one integer into a row of the call's own. Conditions: none beyond each theorem's own premises.
-/
import Derived.Test.YtakmfjnfkjdbfabSlices
import Derived.Test.YtakmfjnfkjdbfabShelfB
namespace Go.Proofs.Ytakmfjnfkjdbfab
open Go.RowKit
set_option linter.unusedVariables false

theorem setCells_wset (g : Nat) : ∀ (vs : List Value) (o : Nat) (w : World), w.setCells g o vs = wset w g o vs
  | [], o, w => rfl
  | v :: vs, o, w => setCells_wset g vs (o + 1) _
theorem shape_of {w : World} {g : Nat} {cur : Array Value} {E : TypeId} {p : Nat × Nat} (h : w.heap[g]? = some (.cells cur E p)) : w.shape? g = some (E, cur.size) := by
  unfold World.shape?
  rw [h]
/-- a row of a new block -/
theorem Sep.made {w0 w w' : World} {L : List It} (H : Sep w0 w L) (E n cap : Nat) (cur : Array Value) (xs : List Value) (hw : w' = w.alloc (.cells cur E) ∨ w' = w.drew.alloc (.cells cur E)) (hs : cur.size = cap) (hn : n ≤ cap) (h0 : 0 < n) (hm : cap ≤ maxLen) (hx : xs.length = n) (ht : cur.toList.take n = xs) :
    Sep w0 w' (L ++ [.row E 1 (.slice (some ⟨w.heap.size, 0, none⟩) n cap) n xs]) := by
  have H' : Sep w0 w' L := by
    rcases hw with rfl | rfl
    · exact H.alloc _
    · exact H.drew.alloc _
  have hh : w'.heap[w.heap.size]? = some (.cells cur E (0, 0)) := by
    rcases hw with rfl | rfl
    · exact heap_alloc_new w _
    · exact heap_alloc_new w.drew _
  obtain ⟨cap, rfl⟩ : ∃ c, cap = c + 1 := ⟨cap - 1, by omega⟩
  refine H'.push (y := .row E 1 _ n xs) ⟨by rw [hx, Nat.mul_one], .inr ⟨w.heap.size, cap, cur, rfl, hh, hn, hm, by rw [hs, Nat.mul_one], by rw [Nat.mul_one]; exact ht⟩⟩ (fun g e => ?_)
  have e' : rowBlk (.slice (some ⟨w.heap.size, 0, none⟩) n (cap + 1)) = some g := e
  simp [rowBlk] at e'
  subst e'
  exact ⟨H.below.size, fun i x hx e => by have := x.live w (H.all i x hx) _ e; omega⟩

theorem zeros_list (m : Nat) : (Builtin.zeroCells (Value.int .i64 0).cells m).toList = List.replicate m (.int .i64 0) := by
  refine List.ext_getElem (by simp [Builtin.zeroCells, Value.cells]) fun i h1 h2 => ?_
  simp [Builtin.zeroCells, Value.cells, Nat.mod_one]

theorem put_shift (xs ys : List Value) (x : Value) (i : Nat) (hi : i ≤ xs.length) (hy : ys.length = 1) : setMany (setMany (xs ++ ys) (i + 1) (xs.drop i)) i [x] = xs.take i ++ x :: xs.drop i := by
  obtain ⟨y, rfl⟩ : ∃ y, ys = [y] := by
    match ys, hy with
    | [y], _ => exact ⟨y, rfl⟩
  have e1 : xs ++ [y] = (xs ++ [y]).take (i + 1) ++ ((xs ++ [y]).drop (i + 1) ++ []) := by rw [List.append_nil, List.take_append_drop]
  have l1 : ((xs ++ [y]).take (i + 1)).length = i + 1 := by rw [List.length_take, List.length_append]; simp; omega
  have l2 : ((xs ++ [y]).drop (i + 1)).length = (xs.drop i).length := by simp
  have h1 : setMany (xs ++ [y]) (i + 1) (xs.drop i) = (xs ++ [y]).take (i + 1) ++ xs.drop i := by
    have := setMany_whole (xs.drop i) ((xs ++ [y]).drop (i + 1)) ((xs ++ [y]).take (i + 1)) [] l2
    rw [l1, ← e1, List.append_nil] at this
    exact this
  rw [h1]
  show ((xs ++ [y]).take (i + 1) ++ xs.drop i).set i x = _
  rw [List.set_append_left _ _ (by rw [l1]; omega)]
  have h2 : (xs ++ [y]).take (i + 1) = xs.take i ++ (xs ++ [y])[i]'(by simp; omega) :: [] := by
    rw [List.take_succ_eq_append_getElem (by simp; omega), List.take_append_of_le_length hi]
  rw [h2, List.set_append_right _ _ (by rw [List.length_take]; omega), List.length_take, Nat.min_eq_left hi, Nat.sub_self]
  simp

theorem put_grow (a z : List Value) (x : Value) (d : List Value) (hz : z.length = d.length + 1) : setMany (setMany (a ++ z) a.length [x]) (a.length + 1) d = a ++ x :: d := by
  match z, hz with
  | z0 :: zt, hz =>
    have h1 : setMany (a ++ z0 :: zt) a.length [x] = a ++ x :: zt := by
      show (a ++ z0 :: zt).set a.length x = _
      rw [List.set_append_right _ _ (Nat.le_refl _), Nat.sub_self]
      rfl
    rw [h1]
    have h2 := setMany_whole d zt (a ++ [x]) [] (by simpa using hz)
    rw [List.length_append, List.append_nil, List.append_nil] at h2
    have e : a ++ x :: zt = a ++ [x] ++ zt := by simp
    rw [e]
    have h3 : setMany (a ++ [x] ++ zt) (a.length + 1) d = a ++ [x] ++ d := h2
    rw [h3]
    simp
theorem Sep.lastFirst {w0 w : World} {a b y : It} {L : List It} (H : Sep w0 w ((a :: b :: L) ++ [y])) : Sep w0 w (y :: b :: L) := by
  refine H.pick_ (fun i => if i = 0 then L.length + 2 else i) (fun i x h => ?_) (fun i j h1 h2 e => ?_)
  · cases i with
    | zero =>
      simp at h
      subst h
      simp
    | succ i =>
      have hl := (List.getElem?_eq_some_iff.1 h).1
      simp at hl
      rw [if_neg (by omega), List.getElem?_append_left (by simp; omega)]
      cases i with
      | zero => simpa using h
      | succ i => simpa using h
  · simp at h1 h2
    split at e <;> split at e <;> omega

theorem int_shelf : Try.lins_ren.t 3 = 3 := rfl
set_option maxHeartbeats 1600000 in
theorem insert_any (w0 w : World) (L : List It) (A : Option Addr) (n c i gv : Nat) (xs : List Value) (x : Int) (H : Sep w0 w (.row 3 1 (.slice A n c) n xs :: .cells gv 3 [.int .i64 x] :: L)) (h1 : ∀ u ∈ xs, u.oneCell' = true) (hi : i ≤ n) (hn : n ≤ 4096) (hnc : n ≤ c) (hcm : c ≤ maxLen) :
    Calls Try.prog 61 #[.slice A n c, .int .i64 (i : Int), .slice (some ⟨gv, 0, none⟩) 1 1] w (fun e w' => ∃ A' c', e = .returned (.slice A' (n + 1) c') ∧ n + 1 ≤ c' ∧ Sep w0 w' (.row 3 1 (.slice A' (n + 1) c') (n + 1) (xs.take i ++ .int .i64 x :: xs.drop i) :: .cells gv 3 [.int .i64 x] :: L)) := by
  have hxl : xs.length = n := by have := (H.rowHas 0 rfl).1; rwa [Nat.mul_one] at this
  have hv0 := H.cell 1 rfl (k := 0) rfl
  have hvs : ∀ (j : Nat) v, [Value.int .i64 x][j]? = some v → w.cell? ⟨gv, 0 + j, none⟩ = some v := by
    intro j v hj
    cases j with
    | zero => simp at hj; subst hj; exact hv0
    | succ j => simp at hj
  have h1v : ∀ v ∈ [Value.int .i64 x], v.oneCell' = true := by simp [Value.oneCell']
  by_cases hroom : n + 1 ≤ c
  · obtain ⟨ys, hy, HE⟩ := H.extend 0 rfl (m := 1) hroom
    rw [Nat.mul_one] at hy
    obtain ⟨g, rfl, hg, hat⟩ := HE.rowAt 0 rfl (by omega)
    have hsp : ∀ j, j < n + 1 → (w.cell? ⟨g, j, none⟩).isSome = true := fun j hj => by
      have hjl : j < (xs ++ ys).length := by rw [List.length_append]; omega
      rw [(hat j).1 _ (List.getElem?_eq_getElem hjl)]
      rfl
    have hfz : ∀ j, w.frozen? ⟨g, j, none⟩ = false := fun j => (hat j).2.1
    rcases Nat.lt_or_ge i n with hlt | hge
    · have hcs : ∀ j v, xs[j]? = some v → w.cell? ⟨g, 0 + j, none⟩ = some v := fun j v hj => by
        rw [Nat.zero_add]
        refine (hat j).1 v ?_
        rw [List.getElem?_append_left (List.getElem?_eq_some_iff.1 hj).1]
        exact hj
      obtain ⟨g', cap, cur, hv, hh, _, _, hsz, _⟩ := (HE.rowHas 0 rfl).2.resolve_left (fun h => by omega)
      cases hv
      have hvh : w.heap[gv]? = some (.cells [Value.int .i64 x].toArray 3 (0, 0)) := HE.blk 1 rfl
      have hne : gv ≠ g := fun e => (HE.ne 0 1 (by decide) (x := .row _ _ _ _ _) (y := .cells _ _ _) rfl rfl (g := g) (g' := gv) rfl rfl) e.symm
      have hc := Any2.slices_Insert_int_shift Try.lins g 0 n (cap + 1) i gv 0 1 1 xs [.int .i64 x] w hlt (by omega) hroom (by simp only [maxLen] at hcm; omega) hne hxl rfl hcs
        (fun j hj => by rw [Nat.zero_add]; exact hsp j hj) (fun j hj => by rw [Nat.zero_add]; exact hfz j) hvs h1 h1v 3 3 1 cur.size (shape_of hvh) (shape_of hh) (by omega) (HE.froz 1 rfl) (HE.froz 1 rfl)
      refine hc.mono fun e w' ⟨he, hw⟩ => ⟨some ⟨g, 0, none⟩, cap + 1, he, hroom, ?_⟩
      rw [hw, Nat.zero_add, Nat.zero_add, setCells_wset, setCells_wset]
      have hS := ((HE.drew.wset (xs.drop i) 0 (i + 1) rfl (by omega)).wset [.int .i64 x] 0 i rfl (by omega))
      rw [put_shift xs ys _ i (by omega) hy] at hS
      exact hS
    · obtain rfl : i = n := by omega
      have hc := Any2.slices_Insert_int_end_room Try.lins g 0 i c gv 0 1 1 [.int .i64 x] w (by omega) hroom (by simp only [maxLen] at hcm; omega) rfl
        (fun j hj => by rw [Nat.zero_add]; exact hsp _ (by omega)) (fun j hj => hfz _) hvs h1v
      refine hc.mono fun e w' ⟨he, hw⟩ => ⟨some ⟨g, 0, none⟩, c, he, hroom, ?_⟩
      rw [hw, Nat.zero_add, setCells_wset]
      have hS := HE.wset [.int .i64 x] 0 i rfl (by omega)
      have he : setMany (xs ++ ys) i [.int .i64 x] = xs.take i ++ .int .i64 x :: xs.drop i := by
        rw [List.take_of_length_le (by omega), List.drop_of_length_le (by omega)]
        match ys, hy with
        | [y], _ =>
          show (xs ++ [y]).set i _ = _
          rw [List.set_append_right _ _ (by omega), hxl, Nat.sub_self]
          rfl
      rw [he] at hS
      exact hS
  · have hcn : c = n := by omega
    subst hcn
    have hlx : (xs.take i ++ Value.int .i64 x :: xs.drop i).length = c + 1 := by simp; omega
    have hcapm := grownCap_le_maxLen w (c + 1) c 3 (by simp only [maxLen]; omega)
    have hcapg := grownCap_ge w (c + 1) c 3
    rcases Nat.lt_or_ge i c with hlt | hge
    · obtain ⟨g, rfl, hg, hat⟩ := H.rowAt 0 rfl (by omega)
      have hcs : ∀ j v, xs[j]? = some v → w.cell? ⟨g, 0 + j, none⟩ = some v := fun j v hj => by
        rw [Nat.zero_add]
        exact (hat j).1 v hj
      have hc := Any2.slices_Insert_int_grow Try.lins g 0 c c i gv 0 1 1 xs [.int .i64 x] w hlt (by omega) (Nat.le_refl _) (by omega) (by omega) hxl rfl hcs hvs h1 h1v
      refine hc.mono fun e w' ⟨he, hw⟩ => ⟨some ⟨w.heap.size, 0, none⟩, grownCap w (c + 1) c 3, he, hcapg, ?_⟩
      have hw2 : w' = (((w.alloc (.cells ((xs.take i).toArray ++ Builtin.zeroCells (Value.int .i64 0).cells (c + 1 - i) ++ Builtin.zeroCells (Value.int .i64 0).cells (grownCap w (c + 1) c 3 - (c + 1))) 3)).drew.setCells w.heap.size i [.int .i64 x]).drew).setCells w.heap.size (i + 1) (xs.drop i) := hw
      generalize grownCap w (c + 1) c 3 = cap at *
      have hM := (H.made (w' := w.alloc (.cells ((xs.take i).toArray ++ Builtin.zeroCells (Value.int .i64 0).cells (c + 1 - i) ++ Builtin.zeroCells (Value.int .i64 0).cells (cap - (c + 1))) 3)) 3 (c + 1) cap _ (xs.take i ++ List.replicate (c + 1 - i) (.int .i64 0)) (.inl rfl)
        (by
          have hz1 : (Value.int .i64 0).cells.size = 1 := rfl
          rw [Array.size_append, Array.size_append, size_zeroCells, size_zeroCells, hz1, List.size_toArray, List.length_take, hxl, Nat.min_eq_left hi]
          omega) hcapg (by omega) hcapm (by rw [List.length_append, List.length_take, List.length_replicate, hxl, Nat.min_eq_left hi]; omega)
        (by
          simp only [Array.toList_append, zeros_list]
          rw [List.take_append_of_le_length (by simp; omega), List.take_of_length_le (by simp; omega)])).lastFirst
      have hS := (((hM.drew).wset [.int .i64 x] 0 i rfl (by omega)).drew).wset (xs.drop i) 0 (i + 1) rfl (by omega)
      have hp := put_grow (xs.take i) (List.replicate (c + 1 - i) (.int .i64 0)) (.int .i64 x) (xs.drop i) (by rw [List.length_replicate, List.length_drop, hxl]; omega)
      rw [List.length_take, hxl, Nat.min_eq_left hi] at hp
      rw [hp] at hS
      rw [hw2, setCells_wset, setCells_wset]
      exact hS
    · obtain rfl : i = c := by omega
      have hc := Any2.slices_Insert_int_end_grow Try.lins A i i gv 0 1 1 xs [.int .i64 x] w (by omega) (Nat.le_refl _) (by omega) (by omega) hxl rfl
        (fun hA => by
          rcases Nat.eq_zero_or_pos i with h | h
          · exact h
          · obtain ⟨g, hg, _⟩ := H.rowAt 0 rfl h
            rw [hA] at hg; cases hg)
        (fun a hA j v hj => by
          have hjl := (List.getElem?_eq_some_iff.1 hj).1
          obtain ⟨g, hg, _, hat⟩ := H.rowAt 0 rfl (by omega)
          rw [hA] at hg
          cases hg
          have := (hat j).1 v hj
          rw [← this]
          congr 1
          unfold Addr.add
          by_cases h0 : j = 0 <;> simp [h0]) hvs h1v
      refine hc.mono fun e w' ⟨he, hw⟩ => ⟨some ⟨w.heap.size, 0, none⟩, grownCap w (i + 1) i 3, he, hcapg, ?_⟩
      have hw2 : w' = w.drew.alloc (.cells ((xs ++ [Value.int .i64 x]).toArray ++ Builtin.zeroCells (Value.int .i64 0).cells (grownCap w (i + 1) i 3 - (i + 1))) 3) := hw
      generalize grownCap w (i + 1) i 3 = cap at *
      have hM := (H.made (w' := w') 3 (i + 1) cap _ (xs ++ [Value.int .i64 x]) (.inr hw2)
        (by
          have hz1 : (Value.int .i64 0).cells.size = 1 := rfl
          rw [Array.size_append, size_zeroCells, hz1, List.size_toArray, List.length_append, hxl]
          simp
          omega) hcapg (by omega) hcapm (by rw [List.length_append, hxl]; rfl)
        (by
          simp only [Array.toList_append, zeros_list]
          rw [List.take_append_of_le_length (by simp; omega), List.take_of_length_le (by simp; omega)])).lastFirst
      rw [List.take_of_length_le (by omega), List.drop_of_length_le (by omega)]
      exact hM
end Go.Proofs.Ytakmfjnfkjdbfab
