/-
  Arguments opened: arrays, and structs whose fields take more cells than one. Conditions: none.
-/
import Derived.Test.YtmbkonhclniolaaParse
namespace Go.Proofs.Ytmbkonhclniolaa
open Go.ChangeShapes Go.WideShapes Go.ChangeAt Go.RowKit Go.Deep
set_option linter.unusedVariables false
section
variable {H : Type} {enc : TypeId × Value → H} {P : Program} {w : World} {base : Nat} {spare : Nat → Bool} {held : Bool}

theorem okWide_arr {w : World} {r : Reach} {t e : TypeId} {n : Nat} {v : Value} (ht : P.underlying t = some (.array n e)) (h : Value.okWide P w r base t v) : ∃ cs, v = .agg cs ∧ cs.size = P.cellsOf t := by
  simp only [Value.okWide, ht] at h
  obtain ⟨cs, h1, h2, _⟩ := h
  exact ⟨cs, h1, h2⟩

/-- a list cut into pieces of C -/
theorem pieces {α : Type} (cells : α → List Value) (Q : α → Prop) (C : Nat) (hl : ∀ x, (cells x).length = C) : ∀ (n : Nat) (cs : List Value), cs.length = n * C →
    (∀ i, i < n → ∃ x, (cs.drop (i * C)).take C = cells x ∧ Q x) → ∃ l : List α, l.length = n ∧ cs = l.flatMap cells ∧ ∀ x ∈ l, Q x := by
  intro n
  induction n with
  | zero => intro cs h _; exact ⟨[], rfl, by simpa using h, by simp⟩
  | succ n ih =>
    intro cs h hi
    obtain ⟨x, hx, hq⟩ := hi 0 (by omega)
    obtain ⟨l, h1, h2, h3⟩ := ih (cs.drop C) (by rw [List.length_drop, h, Nat.add_mul]; omega) (fun i hin => by
      obtain ⟨y, hy, hq⟩ := hi (i + 1) (by omega)
      refine ⟨y, ?_, hq⟩
      rw [List.drop_drop, ← hy]
      congr 2
      rw [Nat.add_mul]
      omega)
    refine ⟨x :: l, by simp [h1], ?_, fun z hz => ?_⟩
    · rw [List.flatMap_cons, ← h2, ← hx]
      simp
    · rcases List.mem_cons.1 hz with rfl | hz
      · exact hq
      · exact h3 z hz

/-- an array, element by element -/
theorem parse_array {α : Type} {t e : TypeId} {n m C : Nat} {cs : List Value} {y : DataW H × List MemPlace} (cells : α → List Value) (Q : α → Prop) (ht : P.underlying t = some (.array n e)) (hC : P.cellsOf e = C) (hT : P.cellsOf t = n * C)
    (hl : ∀ x, (cells x).length = C)
    (hp : ∀ m cs y, DataW.trod enc P w base spare held m e cs = some y → ∃ x : α, cs = cells x ∧ Q x)
    (h : DataW.trod enc P w base spare held m t cs = some y) : ∃ l : List α, l.length = n ∧ cs = l.flatMap cells ∧ ∀ x ∈ l, Q x := by
  obtain ⟨xs, m, _, _, hlen, hxl, hf⟩ := DataW.trod_array ht h
  refine pieces cells Q C hl n cs (by rw [hlen, hT]) fun i hi => ?_
  have h1 := hf i hi
  rw [hC] at h1
  exact hp _ _ _ (h1.trans (List.getElem?_eq_getElem (by omega)))

theorem open_array {α : Type} {t e : TypeId} {n C : Nat} {v : Value} {d : DataW H} {p : List MemPlace} {r : Reach} (cells : α → List Value) (Q : α → Prop) (ht : P.underlying t = some (.array n e)) (hC : P.cellsOf e = C) (hT : P.cellsOf t = n * C)
    (hl : ∀ x, (cells x).length = C)
    (hp : ∀ m cs y, DataW.trod enc P w base spare held m e cs = some y → ∃ x : α, cs = cells x ∧ Q x)
    {b0 : Nat} (hv : Value.okWide P w r b0 t v) (h : DataW.Trod enc P w base spare held t v d p) : ∃ l : List α, v = .agg (l.flatMap cells).toArray ∧ l.length = n ∧ ∀ x ∈ l, Q x := by
  obtain ⟨cs, rfl, _⟩ := okWide_arr ht hv
  obtain ⟨m, hm⟩ := h
  obtain ⟨l, h1, h2, h3⟩ := parse_array cells Q ht hC hT hl hp hm
  refine ⟨l, ?_, h1, h3⟩
  have : cs.toList = l.flatMap cells := by simpa [Value.cells] using h2
  rw [← this]

/-- a struct's field, whatever its size -/
theorem parse_field {e : TypeId} {fs : Array Field} {n : Nat} {cs : List Value} {y : DataW H × List MemPlace} (ht : P.underlying e = some (.struct fs)) (h : DataW.trod enc P w base spare held n e cs = some y) :
    cs.length = P.cellsOf e ∧ ∃ m, ∀ (j : Nat) (f : Field), fs[j]? = some f → ∃ z, DataW.trod enc P w base spare held m f.type ((cs.drop f.offset).take (P.cellsOf f.type)) = some z := by
  obtain ⟨ys, m, _, _, hlen, hyl, hf⟩ := DataW.trod_struct ht h
  refine ⟨hlen, m, fun j f hj => ?_⟩
  have hjl : j < fs.size := (Array.getElem?_eq_some_iff.1 hj).1
  exact ⟨_, (hf j f hj).trans (List.getElem?_eq_getElem (by omega))⟩
end
end Go.Proofs.Ytmbkonhclniolaa
