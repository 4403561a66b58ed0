/-
  Plain law: what dir's functions answer is what the reference answers; steps of regions that call. Conditions: none beyond each theorem's own premises.
-/
import Derived.Test.YtelgalhkggnkbabDrS
import Derived.Test.YtelgalhkggnkbabHead
namespace Go.Proofs.Ytelgalhkggnkbab
open Go.RowKit Go.Shelf
set_option linter.unusedVariables false
/-- an operation of a region that draws, known to be wanted -/
theorem step_wanted {P : Program} {ops : Array Oper} {o : Oper} {a : Act} {w : World} {K : Act → World → Prop} {Q : Exit → Act → World → Prop} {E : Prop} (hw : Region.wanted o (yielded ops a.tmps) = true) (h : Oper.wp P o a w K Q) :
    if Region.wanted o (yielded ops a.tmps) = true then Oper.wp P o a w K Q else E := by
  rw [if_pos hw]
  exact h
theorem step_fn {P : Program} {ops : Array Oper} {o : Oper} {a : Act} {w : World} {K : Act → World → Prop} {Q : Exit → Act → World → Prop} {E : Prop} (f : FuncId) {xs : Array Operand} {ts : Array TypeId} (ho : o.op = .call { callee := .value (.func f), args := xs, argTypes := ts }) (hw : Region.wanted o (yielded ops a.tmps) = true) (h : Oper.wp P o a w K Q) :
    if Region.wanted o (yielded ops a.tmps) = true then Oper.wp P o a w K Q else E := by
  rw [if_pos hw]
  exact h
theorem step_app {P : Program} {ops : Array Oper} {o : Oper} {a : Act} {w : World} {K : Act → World → Prop} {Q : Exit → Act → World → Prop} {E : Prop} {xs : Array Operand} {ts : Array TypeId} (ho : o.op = .call { callee := .builtin .append, args := xs, argTypes := ts }) (hw : Region.wanted o (yielded ops a.tmps) = true) (h : Oper.wp P o a w K Q) :
    if Region.wanted o (yielded ops a.tmps) = true then Oper.wp P o a w K Q else E := by
  rw [if_pos hw]
  exact h
namespace Dr

theorem right_uniq {l : List En} (h : RightL l) {i j : Nat} {x y : En} (hx : l[i]? = Option.some x) (hy : l[j]? = some y) (e : x.nm = y.nm) : i = j := by
  rcases Nat.lt_trichotomy i j with h1 | h1 | h1
  · exact absurd e (ltN_ne (right_lt h h1 hx hy))
  · exact h1
  · exact absurd e.symm (ltN_ne (right_lt h h1 hy hx))
theorem FindW.inv1 {l : List En} {nm : ByteArray} {k e : Int} (h : FindW l nm k e) (hr : ¬ RightL l) : k = 0 ∧ e = 1 := by
  cases h with
  | form _ => exact ⟨rfl, rfl⟩
  | none h _ => exact absurd h hr
  | some h _ _ _ _ => exact absurd h hr
theorem FindW.inv2 {l : List En} {nm : ByteArray} {k e : Int} (h : FindW l nm k e) (hr : RightL l) {i : Nat} {x : En} (hx : l[i]? = Option.some x) (hn : x.nm = nm) : k = x.id ∧ e = 0 := by
  cases h with
  | form h => exact absurd hr h
  | none _ h => exact absurd hn (h x (List.mem_of_getElem? hx))
  | some _ j y hy hyn =>
    obtain rfl := right_uniq hr hx hy (by rw [hn, hyn])
    rw [hx] at hy
    cases hy
    exact ⟨rfl, rfl⟩
theorem FindW.inv3 {l : List En} {nm : ByteArray} {k e : Int} (h : FindW l nm k e) (hr : RightL l) (hno : ∀ x ∈ l, x.nm ≠ nm) : k = 0 ∧ e = 3 := by
  cases h with
  | form h => exact absurd hr h
  | none _ h => exact ⟨rfl, rfl⟩
  | some _ j y hy hyn => exact absurd hyn (hno y (List.mem_of_getElem? hy))
theorem RemW.inv1 {l out : List En} {nm : ByteArray} {e : Int} (h : RemW l nm out e) (hr : ¬ RightL l) : out = [] ∧ e = 1 := by
  cases h with
  | form _ => exact ⟨rfl, rfl⟩
  | none h _ => exact absurd h hr
  | ok h _ _ _ _ => exact absurd h hr
theorem RemW.inv2 {l out : List En} {nm : ByteArray} {e : Int} (h : RemW l nm out e) (hr : RightL l) {i : Nat} {x : En} (hx : l[i]? = Option.some x) (hn : x.nm = nm) : out = l.take i ++ l.drop (i + 1) ∧ e = 0 := by
  cases h with
  | form h => exact absurd hr h
  | none _ h => exact absurd hn (h x (List.mem_of_getElem? hx))
  | ok _ j y hy hyn =>
    obtain rfl := right_uniq hr hx hy (by rw [hn, hyn])
    exact ⟨rfl, rfl⟩
theorem RemW.inv3 {l out : List En} {nm : ByteArray} {e : Int} (h : RemW l nm out e) (hr : RightL l) (hno : ∀ x ∈ l, x.nm ≠ nm) : out = [] ∧ e = 3 := by
  cases h with
  | form h => exact absurd hr h
  | none _ h => exact ⟨rfl, rfl⟩
  | ok _ j y hy hyn => exact absurd hyn (hno y (List.mem_of_getElem? hy))
theorem AtF.inv2 {l : List En} {nm : ByteArray} {k : Int} (h : AtF l nm k) (hr : RightL l) {i : Nat} {x : En} (hx : l[i]? = Option.some x) (hn : x.nm = nm) : k = i := by
  rcases h with ⟨_, h⟩ | ⟨j, y, hk, hy, hyn⟩
  · exact absurd hn (h x (List.mem_of_getElem? hx))
  · rw [hk, right_uniq hr hx hy (by rw [hn, hyn])]
theorem AtF.inv3 {l : List En} {nm : ByteArray} {k : Int} (h : AtF l nm k) (hno : ∀ x ∈ l, x.nm ≠ nm) : k = -1 := by
  rcases h with ⟨h, _⟩ | ⟨j, y, hk, hy, hyn⟩
  · exact h
  · exact absurd hyn (hno y (List.mem_of_getElem? hy))
theorem ltE_asym (a b : En) (h : ltE a b = true) : ltE b a = false := ltN_asym h
theorem ltE_ntr (a b c : En) (h1 : ltE a b = false) (h2 : ltE b c = false) : ltE a c = false := by
  unfold ltE at *
  cases h : ltN a.nm c.nm with
  | false => rfl
  | true =>
    by_cases e : b.nm = c.nm
    · rw [← e] at h; rw [h1] at h; cases h
    · rcases ltN_tot e with h3 | h3
      · rw [h2] at h3; cases h3
      · have := ltN_trans h h3
        rw [h1] at this; cases this
/-- a strictly ordered list is what sorting makes of any list of its entries -/
theorem sorted_eq {l m : List En} (hl : l.Pairwise (fun x y => ltN x.nm y.nm = true)) (hp : m.Perm l) : Srt.isort ltE m.length m = l := by
  have hasc : Srt.Asc ltE l := hl.imp fun h => ltN_asym h
  have h1 := Srt.isort_asc ltE ltE_ntr ltE_asym m
  have h2 := Srt.isort_perm ltE m
  refine (Srt.asc_unique (fun a ha b hb h3 h4 => ?_) hasc h1 (h2.trans hp).symm).symm
  obtain ⟨i, hi⟩ := List.mem_iff_getElem?.1 ha
  obtain ⟨j, hj⟩ := List.mem_iff_getElem?.1 hb
  have lt_of : ∀ {i j : Nat} {x y : En}, i < j → l[i]? = Option.some x → l[j]? = Option.some y → ltN x.nm y.nm = true := fun {i j x y} hij hx hy => by
    obtain ⟨a1, rfl⟩ := List.getElem?_eq_some_iff.1 hx
    obtain ⟨a2, rfl⟩ := List.getElem?_eq_some_iff.1 hy
    exact List.pairwise_iff_getElem.1 hl i j a1 a2 hij
  unfold ltE at h3 h4
  rcases Nat.lt_trichotomy i j with h | h | h
  · have := lt_of h hi hj; rw [h3] at this; cases this
  · subst h; rw [hi] at hj; cases hj; rfl
  · have := lt_of h hj hi; rw [h4] at this; cases this
theorem AddW.inv1 {l out : List En} {x : En} {e : Int} (h : AddW l x out e) (hr : ¬ RightL l) : out = [] ∧ e = 1 := by
  cases h with
  | form _ => exact ⟨rfl, rfl⟩
  | range h _ => exact absurd h hr
  | held h _ _ => exact absurd h hr
  | ok h _ _ _ _ _ => exact absurd h hr
theorem AddW.inv2 {l out : List En} {x y : En} {e : Int} (h : AddW l x out e) (hr : RightL l) (hy : y ∈ l) (hn : y.nm = x.nm) : out = [] ∧ e = 6 := by
  cases h with
  | form h => exact absurd hr h
  | range _ h => exact absurd (by rw [← hn]; exact hr.1 y hy) h
  | held _ _ _ => exact ⟨rfl, rfl⟩
  | ok _ _ h _ _ _ => exact absurd hn (h y hy)
theorem AddW.inv3 {l out : List En} {x : En} {e : Int} (h : AddW l x out e) (hr : RightL l) (hno : ∀ y ∈ l, y.nm ≠ x.nm) (hg : ¬ GoodB x.nm) : out = [] ∧ e = 2 := by
  cases h with
  | form h => exact absurd hr h
  | range _ h => exact ⟨rfl, rfl⟩
  | held _ h _ => exact absurd h hg
  | ok _ h _ _ _ _ => exact absurd h hg
theorem AddW.inv4 {l out : List En} {x : En} {e : Int} (h : AddW l x out e) (hr : RightL l) (hno : ∀ y ∈ l, y.nm ≠ x.nm) (hg : GoodB x.nm) : out = Srt.isort ltE (l.length + 1) (l ++ [x]) ∧ e = 0 := by
  cases h with
  | form h => exact absurd hr h
  | range _ h => exact absurd hg h
  | held _ _ h => obtain ⟨y, hy, hyn⟩ := h; exact absurd hyn (hno y hy)
  | ok _ _ _ i h3 h4 =>
    refine ⟨?_, rfl⟩
    have hlen : (l ++ [x]).length = l.length + 1 := by simp
    rw [← hlen]
    refine (sorted_eq ?_ ?_).symm
    · have hs : (l.take i ++ l.drop i).Pairwise (fun x y => ltN x.nm y.nm = true) := by rw [List.take_append_drop]; exact hr.2
      have hs2 := List.pairwise_append.1 hs
      have hlo : ∀ y ∈ l.take i, ltN y.nm x.nm = true := fun y hy => by
        obtain ⟨j, hj⟩ := List.mem_iff_getElem?.1 hy
        rw [List.getElem?_take] at hj
        split at hj
        · next hji => exact h3 j y hji hj
        · cases hj
      have hhi : ∀ y ∈ l.drop i, ltN x.nm y.nm = true := fun y hy => by
        have hm := List.mem_of_mem_drop hy
        obtain ⟨j, hj⟩ := List.mem_iff_getElem?.1 hy
        rw [List.getElem?_drop] at hj
        have h5 := h4 _ y (by omega) hj
        rcases ltN_tot (hno y hm) with h6 | h6
        · rw [h5] at h6; cases h6
        · exact h6
      refine List.pairwise_append.2 ⟨hs2.1, List.pairwise_cons.2 ⟨hhi, hs2.2.1⟩, fun y hy z hz => ?_⟩
      rcases List.mem_cons.1 hz with rfl | hz
      · exact hlo y hy
      · exact hs2.2.2 y hy z hz
    · refine (List.perm_append_comm (l₁ := l) (l₂ := [x])).trans ?_
      have h := (List.perm_middle (a := x) (l₁ := l.take i) (l₂ := l.drop i)).symm
      rwa [List.take_append_drop] at h
end Dr
end Go.Proofs.Ytelgalhkggnkbab
