/-
  A slice argument opened as a list, with the list of what its elements read as; the bulk of all together. Conditions: none beyond each theorem's own premises.
-/
import Derived.Test.YtccpkkopniadiaaGreatDoorArgs
namespace Go.Proofs.YtccpkkopniadiaaGreatDoor
open Go.ChangeShapes Go.WideShapes Go.ChangeAt Go.RowKit Go.Deep
set_option linter.unusedVariables false
section
variable {H : Type} {enc : TypeId × Value → H} {P : Program} {w : World} {base : Nat} {spare : Nat → Bool} {held : Bool}
/-- A slice argument opened as a list, whatever its elements: 'hp' says how one element's cells read. -/
theorem open_list3 {α : Type} {t e : TypeId} {C fuel : Nat} {cs : List Value} {x : DataW H × List MemPlace} (cells : α → List Value) (Q : α → DataW H → Prop) (ht : P.underlying t = some (.slice e)) (hC : P.cellsOf e = C)
    (hl : ∀ x, (cells x).length = C) (h0 : 0 < C)
    (hp : ∀ n cs y, DataW.trod enc P w base spare held n e cs = some y → ∃ x : α, cs = cells x ∧ Q x y.1)
    (h : DataW.trod enc P w base spare held fuel t cs = some x) :
    ∃ (A : Option Addr) (n cap : Nat) (l : List α), cs = [.slice A n cap] ∧ l.length = n ∧ n ≤ cap ∧ cap ≤ maxLen ∧ (A = none → cap = 0) ∧ Rd w w.heap.size C A n (l.flatMap cells) ∧ ∃ ys : List (DataW H), ys.length = n ∧ (∀ (i : Nat) (a : α), l[i]? = some a → ∃ y, ys[i]? = some y ∧ Q a y) ∧ ((x.1 = .nil ∧ n = 0) ∨ ∃ sp, x.1 = .slice ys sp) := by
  rcases Go.Deep.open_slice ht h with ⟨rfl, rfl⟩ | ⟨a, len, cap, m, fu, D, Pl, rfl, hb, hlc, hm, hmm, rfl, hi⟩
  · exact ⟨none, 0, 0, [], rfl, rfl, Nat.le_refl _, Nat.zero_le _, fun _ => rfl, Rd.nil_, [], rfl, (fun i a h => by simp at h), .inl ⟨rfl, rfl⟩⟩
  · have hlm : len ≤ m := by rw [hmm]; split <;> omega
    obtain ⟨l, hll, hR⟩ := choose_list len (fun i (x : α) => Q x (D i) ∧ ∀ j, j < C → w.cell? ((a.add (i * C)).add j) = (cells x)[j]?) (fun i hi' => by
      obtain ⟨cs', hcs, htr⟩ := hi i (by omega)
      obtain ⟨x, rfl, hq⟩ := hp _ _ _ htr
      rw [hC] at hcs
      exact ⟨x, hq, (World.cells?_some hcs).2.2⟩)
    refine ⟨some a, len, cap, l, rfl, hll, hlc, hm, (fun h => by cases h), ⟨by rw [flat_len hl, hll], fun hn => ?_⟩, (List.range len).map D, by simp, fun i x hx => ?_, .inr ⟨_, rfl⟩⟩
    · obtain ⟨b, off, spot⟩ := a
      have hx0 : l[0]? = some (l[0]'(by omega)) := List.getElem?_eq_getElem _
      have h00 := (hR 0 _ hx0).2 0 h0
      have hv : (cells (l[0]'(by omega)))[0]? = some ((cells (l[0]'(by omega)))[0]'(by rw [hl]; exact h0)) := List.getElem?_eq_getElem _
      rw [hv] at h00
      have hspot : spot = none := by simpa [Addr.add] using World.cell?_spot h00
      subst hspot
      have hblk : b < w.heap.size := by
        have := World.block_lt_of_cell? w _ h00
        simpa [Addr.add] using this
      refine ⟨b, off, rfl, hblk, fun j u hu => ?_⟩
      have hj : j < len * C := by
        have := (List.getElem?_eq_some_iff.1 hu).1
        rw [flat_len hl, hll] at this
        exact this
      have hCC : C * (j / C) + j % C = j := Nat.div_add_mod j C
      have hi' : j / C < len := Nat.div_lt_of_lt_mul (by rw [Nat.mul_comm]; exact hj)
      have hr : j % C < C := Nat.mod_lt _ h0
      have hxi : l[j / C]? = some (l[j / C]'(by omega)) := List.getElem?_eq_getElem _
      have hc := (hR _ _ hxi).2 (j % C) hr
      have hg := flat_get hl l (j / C) (j % C) _ hxi hr
      rw [show j / C * C + j % C = j by rw [Nat.mul_comm]; exact hCC, hu] at hg
      rw [← hg, addr_two, show j / C * C + j % C = j by rw [Nat.mul_comm]; exact hCC] at hc
      exact hc
    · have hi' : i < len := by
        have := (List.getElem?_eq_some_iff.1 hx).1
        omega
      refine ⟨D i, ?_, (hR i x hx).1⟩
      rw [List.getElem?_map, List.getElem?_range hi']
      rfl
end
theorem bulk_sum {H : Type} {α : Type} {Q : α → DataW H → Prop} (f : α → Nat) (m c : Nat) (hf : ∀ a y, Q a y → f a ≤ m * Rows.uptoBulk y + c) : ∀ (l : List α) (ys : List (DataW H)), ys.length = l.length → (∀ (i : Nat) (a : α), l[i]? = some a → ∃ y, ys[i]? = some y ∧ Q a y) → (l.map f).sum ≤ m * Rows.uptoBulkAll ys + c * l.length
  | [], ys, _, _ => by simp
  | a :: l, [], h, _ => by simp at h
  | a :: l, y :: ys, h, hq => by
    obtain ⟨y', hy, hqa⟩ := hq 0 a rfl
    obtain rfl : y = y' := by simpa using hy
    have ih := bulk_sum f m c hf l ys (by simpa using h) (fun i b hb => by simpa using hq (i + 1) b (by simpa using hb))
    have h1 := hf a y hqa
    rw [List.map_cons, List.sum_cons, List.length_cons]
    simp only [Rows.uptoBulkAll]
    rw [Nat.mul_add, Nat.mul_add, Nat.mul_one]
    omega
end Go.Proofs.YtccpkkopniadiaaGreatDoor
