/-
  A region that draws its order, whose first m operations make memory in whatever order, the m-th of them behind all others, and whose rest only reads: the head by an invariant, the rest by one lexical walk. Conditions: none beyond the theorem's own premises.
-/
import Derived.Test.YtelgalhkggnkbabInv
import Derived.Test.YtelgalhkggnkbabSep
namespace Go.Proofs.Ytelgalhkggnkbab
open Go.RowKit
set_option linter.unusedVariables false

/-- some edge of o that binds goes to where p holds -/
def edgeTo (o : Oper) (p : Nat → Bool) : Bool := o.after.any fun e => Region.binds .any e && p e.on
/-- the first m operations stand ahead of all others; the last of them behind all of them -/
def headB (m : Nat) (ops : Array Oper) : Bool :=
  decide (0 < m) && decide (m ≤ ops.size) && downB .any ops &&
  ((List.range (m - 1)).all fun j => match ops[m - 1]? with
    | some o => edgeTo o (· == j)
    | none => false) &&
  (List.range ops.size).all fun j => decide (j < m) || match ops[j]? with
    | some o => edgeTo o (fun x => decide (m - 1 ≤ x) && decide (x < j))
    | none => false
/-- the first m listed -/
def headArr (m n : Nat) : Array Bool := (List.replicate m true ++ List.replicate (n - m) false).toArray

theorem edge_of {o : Oper} {p : Nat → Bool} (h : edgeTo o p = true) : ∃ e ∈ o.after, Region.binds .any e = true ∧ p e.on = true := by
  unfold edgeTo at h
  obtain ⟨e, he, h2⟩ := Array.any_eq_true'.1 h
  rw [Bool.and_eq_true] at h2
  exact ⟨e, he, h2.1, h2.2⟩

section
variable {P : Program} {ops : Array Oper} {Q : Exit → Act → World → Prop}
theorem wp_region_head (m : Nat) {id : Nat} {a : Act} {w : World} (I : (Nat → Bool) → Act → World → Prop) (K : Act → World → Prop) (hm : P.follows .mixedOrders = true) (hd : headB m ops = true)
    (hs : Region.noSelect ops = true) (hB : Region.lexFrom .any ops (ops.toList.drop m).length m (headArr m ops.size) = true)
    (h0 : I (fun _ => false) a { w with drawn := w.drawn + 1 })
    (hstep : ∀ (L : Nat → Bool) a w (i : Nat) (o : Oper), i + 1 < m → I L a w → ops[i]? = some o → L i = false → (∀ e ∈ o.after, Region.binds .any e = true → L e.on = true) → wpOp P ops Q i (fun a' w' => I (fun j => if j = i then true else L j) a' w') a w)
    (hlast : ∀ (L : Nat → Bool) a w (o : Oper), I L a w → ops[m - 1]? = some o → (∀ j, j + 1 < m → L j = true) → wpOp P ops Q (m - 1) K a w)
    (hk : ∀ a1 w1, K a1 w1 → ∃ C : World → Prop, C w1 ∧ wpQuiet P ops C (fun a' => ∀ w', C w' → Q .normal a' w') (ops.toList.drop m) a1) : (Code.region id ops true).wp P Q a w := by
  simp only [headB, Bool.and_eq_true, decide_eq_true_eq] at hd
  obtain ⟨⟨⟨⟨hm0, hms⟩, hdn⟩, hlastB⟩, hrest⟩ := hd
  refine wp_region_any hm ?_
  -- behind the head
  have hend : ∀ a1 w1, K a1 w1 → wpAny P .any ops Q (ops.size - m) (headArr m ops.size) a1 w1 := by
    intro a1 w1 hK
    obtain ⟨C, hC, hq⟩ := hk a1 w1 hK
    have h1 := wpAnyQ_lex (P := P) (C := C) (md := .any) hs (ops.toList.drop m) m (headArr m ops.size) a1 (by simp) hB hq
    have h2 := wpAny_of_quiet (P := P) (ops := ops) (C := C) (md := .any) (Q := fun a' => ∀ w', C w' → Q .normal a' w') (Q' := Q) (fun _ w' hw' h => h w' hw') _ _ _ _ hC h1
    rw [List.length_drop, Array.length_toList] at h2
    exact h2
  have hmain : ∀ (f : Nat) (listed : Array Bool) (a : Act) (w : World), listed.size = ops.size → (∀ j, m ≤ j + 1 → listed.getD j false = false) → f = (ops.size - m) + (listed.toList.take m).count false → I (fun j => listed.getD j false) a w → wpAny P .any ops Q f listed a w := by
    intro f
    induction f with
    | zero =>
      intro listed a w hsz hfree hf hI
      exfalso
      have h1 : listed.toList[m - 1]? = some false := by
        have h2 := hfree (m - 1) (by omega)
        have h3 : m - 1 < listed.size := by omega
        rw [Array.getD_eq_getD_getElem?, Array.getElem?_eq_getElem h3] at h2
        rw [Array.getElem?_toList, Array.getElem?_eq_getElem h3]
        simpa using h2
      have h2 : false ∈ listed.toList.take m := List.mem_of_getElem? (i := m - 1) (by rw [List.getElem?_take, if_pos (by omega), h1])
      have := List.count_pos_iff.2 h2
      omega
    | succ f ih =>
      intro listed a w hsz hfree hf hI
      refine ⟨fun hr => ?_, fun i hi => ?_⟩
      · exfalso
        have h1 := all_listed hdn hsz hr (m - 1) (by omega)
        rw [hfree (m - 1) (by omega)] at h1
        cases h1
      · obtain ⟨hl, o, ho, hall⟩ := mem_ready.1 hi
        have hlt : i < listed.size := by
          rcases Nat.lt_or_ge i listed.size with h | h
          · exact h
          · simp [Array.getD_eq_getD_getElem?, Array.getElem?_eq_none h] at hl
        have hl' : listed[i] = false := by simpa [Array.getD_eq_getD_getElem?, hlt] using hl
        have him : i < m := by
          rcases Nat.lt_or_ge i m with h | h
          · exact h
          · exfalso
            have h1 := List.all_eq_true.1 hrest i (List.mem_range.2 (by omega))
            rw [ho, Bool.or_eq_true, decide_eq_true_eq] at h1
            rcases h1 with h1 | h1
            · omega
            · obtain ⟨e, he, hb, h2⟩ := edge_of h1
              simp only [Bool.and_eq_true, decide_eq_true_eq] at h2
              have h3 := hall e he hb
              rw [hfree e.on (by omega)] at h3
              cases h3
        have htl : listed.toList[i]'(by simpa using hlt) = false := by simpa using hl'
        have hcnt : ((listed.setIfInBounds i true).toList.take m).count false + 1 = (listed.toList.take m).count false := by
          rw [Array.toList_setIfInBounds, List.take_set, List.count_set (by rw [List.length_take, Array.length_toList]; omega), List.getElem_take, htl]
          have h5 : 0 < (listed.toList.take m).count false := List.count_pos_iff.2 (by
            refine List.mem_of_getElem? (i := i) ?_
            rw [List.getElem?_take, if_pos him, List.getElem?_eq_getElem (by simpa using hlt), htl])
          simp
          omega
        by_cases hlm : i = m - 1
        · subst hlm
          have hL : ∀ j, j + 1 < m → listed.getD j false = true := by
            intro j hj
            have h1 := List.all_eq_true.1 hlastB j (List.mem_range.2 (by omega))
            rw [ho] at h1
            obtain ⟨e, he, hb, h2⟩ := edge_of h1
            have h2 : e.on = j := by simpa using h2
            subst h2
            exact hall e he hb
          have harr : listed.setIfInBounds (m - 1) true = headArr m ops.size := by
            refine Array.ext' (List.ext_getElem? fun j => ?_)
            rw [Array.toList_setIfInBounds, headArr, List.getElem?_set, List.getElem?_append]
            by_cases hj : m - 1 = j
            · subst hj
              rw [if_pos rfl, if_pos (by simpa using hlt), if_pos (by simp; omega), List.getElem?_replicate, if_pos (by omega)]
            · rw [if_neg hj]
              by_cases hjm : j < m
              · rw [if_pos (by simpa using hjm), List.getElem?_replicate, if_pos hjm]
                have h1 := hL j (by omega)
                have h3 : j < listed.size := by omega
                rw [Array.getD_eq_getD_getElem?, Array.getElem?_eq_getElem h3] at h1
                rw [Array.getElem?_toList, Array.getElem?_eq_getElem h3]
                simpa using h1
              · rw [if_neg (by simpa using hjm), List.getElem?_replicate, List.length_replicate]
                by_cases h3 : j < listed.size
                · have h1 := hfree j (by omega)
                  rw [Array.getD_eq_getD_getElem?, Array.getElem?_eq_getElem h3] at h1
                  rw [Array.getElem?_toList, Array.getElem?_eq_getElem h3, if_pos (by omega)]
                  simpa using h1
                · rw [Array.getElem?_toList, Array.getElem?_eq_none (by omega), if_neg (by omega)]
          refine wpOp_mono (fun a' w' h => ?_) (hlast _ a w o hI ho hL)
          rw [harr]
          have h6 : (headArr m ops.size).toList.take m = List.replicate m true := by
            simp [headArr]
          rw [harr, h6] at hcnt
          have h7 : (List.replicate m true).count false = 0 := by simp [List.count_replicate]
          have h8 : f = ops.size - m := by omega
          rw [h8]
          exact hend a' w' h
        · refine wpOp_mono (fun a' w' h => ih _ a' w' (by simpa using hsz) ?_ (by omega) ?_) (hstep _ a w i o (by omega) hI ho (by simp [Array.getD_eq_getD_getElem?, hlt, hl']) hall)
          · intro j hj
            have := hfree j hj
            simp [Array.getD_eq_getD_getElem?, show i ≠ j by omega] at this ⊢
            exact this
          · have e : (fun j => (listed.setIfInBounds i true).getD j false) = (fun j => if j = i then true else listed.getD j false) := by
              funext j
              by_cases hji : j = i
              · subst hji
                simp [Array.getD_eq_getD_getElem?, hlt]
              · rw [if_neg hji]
                simp [Array.getD_eq_getD_getElem?, Ne.symm hji]
            rw [e]
            exact h
  refine hmain _ _ _ _ (by simp) (fun j _ => ?_) ?_ ?_
  · simp [Array.getD_eq_getD_getElem?, Array.getElem?_replicate]
    split <;> rfl
  · simp [Nat.min_eq_left hms]
    omega
  · have e : (fun j => (Array.replicate ops.size false).getD j false) = (fun _ => false) := by
      funext j
      simp [Array.getD_eq_getD_getElem?, Array.getElem?_replicate]
      split <;> rfl
    simp only [e]
    exact h0
/-- the law, the invariant told of the frame at the region's head -/
theorem wp_region_head0 (m : Nat) {id : Nat} {a : Act} {w : World} (I : Act → (Nat → Bool) → Act → World → Prop) (K : Act → Act → World → Prop) (hm : P.follows .mixedOrders = true) (hd : headB m ops = true)
    (hs : Region.noSelect ops = true) (hB : Region.lexFrom .any ops (ops.toList.drop m).length m (headArr m ops.size) = true)
    (h0 : I a (fun _ => false) a { w with drawn := w.drawn + 1 })
    (hstep : ∀ (L : Nat → Bool) a' w (i : Nat) (o : Oper), i + 1 < m → I a L a' w → ops[i]? = some o → L i = false → (∀ e ∈ o.after, Region.binds .any e = true → L e.on = true) → wpOp P ops Q i (fun a' w' => I a (fun j => if j = i then true else L j) a' w') a' w)
    (hlast : ∀ (L : Nat → Bool) a' w (o : Oper), I a L a' w → ops[m - 1]? = some o → (∀ j, j + 1 < m → L j = true) → wpOp P ops Q (m - 1) (K a) a' w)
    (hk : ∀ a1 w1, K a a1 w1 → ∃ C : World → Prop, C w1 ∧ wpQuiet P ops C (fun a' => ∀ w', C w' → Q .normal a' w') (ops.toList.drop m) a1) : (Code.region id ops true).wp P Q a w :=
  wp_region_head m (I a) (K a) hm hd hs hB h0 hstep hlast hk
end
/-- an append, the operation by itself -/
theorem oper_append_sep {P : Program} {w0 w : World} {L : List It} {o : Oper} {a : Act} {K : Act → World → Prop} {Q : Exit → Act → World → Prop} (H : Sep w0 w L) (i : Nat) (s x : Operand) (t : TypeId)
    (ho : o.op = .call { callee := .builtin .append, args := #[s, x], argTypes := #[t, t] })
    (e : TypeId) (ti : TypeInfo) (z : Value) (size bytes : Nat) (ht : P.underlying t = some (.slice e)) (hti : P.info? e = some ti) (hz : ti.zero = some z)
    (hsize : ti.size = size) (hby : ti.bytes = bytes) (hzs : z.cells.size = size) (hsz : 0 < size)
    (v : Value) (n : Nat) (xs : List Value) (hs : a.eval s = v) (hi : L[i]? = some (.row e size v n xs))
    (B : Nat) (A : Option Addr) (m c : Nat) (news : List Value) (hx : a.eval x = .slice A m c) (hr : Rd w B size A m news) (h1 : ∀ u ∈ news, u.oneCell' = true)
    (h63 : n + m ≤ maxLen) (hbytes : (n + m) * bytes ≤ 140737488355328)
    (h : ∀ A' c' w', n + m ≤ c' → w.grownBy w' (rowBlk v) → Sep w0 w' (L.set i (.row e size (.slice A' (n + m) c') (n + m) (xs ++ news))) → K (a.put o.dst (.slice A' (n + m) c')) w') : o.wp P a w K Q := by
  obtain ⟨v', w', hrun, h2, h3, h4⟩ := run_append_row (P := P) w t o.type e ti z size bytes ht hti hz hsize hby hzs hsz v n xs (H.rowHas i hi) B A m c news hr h1 h63 hbytes
  obtain ⟨A', c', rfl, hc⟩ := h2.slice
  unfold Oper.wp execOp
  simp only [ho, resolve, invoke, builtin, Sem.run_bind, Sem.run_pure, Result.andThen_ok, List.map_toArray, List.map_cons, List.map_nil, hs, hx, hrun]
  exact h A' c' w' hc h3 (H.appended i hi h3 h2 h4)
end Go.Proofs.Ytelgalhkggnkbab
