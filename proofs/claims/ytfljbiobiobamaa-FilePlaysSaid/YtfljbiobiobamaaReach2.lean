/-
  What the row's own reach gives of slices and strings that lie inside a slice argument's elements. Conditions: none beyond each theorem's own premises.
-/
import Derived.Test.YtfljbiobiobamaaReach
import Derived.Test.YtfljbiobiobamaaBulk2
namespace Go.Proofs.Ytfljbiobiobamaa
open Go.ChangeShapes Go.WideShapes Go.ChangeAt Go.RowKit Go.Deep
theorem weightsAll_in {H : Type} {P : Program} {e : TypeId} : ∀ {l : List (DataW H)} {d : DataW H}, d ∈ l → ∀ n ∈ d.weights P e, n ∈ DataW.weightsAll P e l
  | d' :: r, d, hd, n, hn => by
    simp only [DataW.weightsAll, List.mem_append]
    rcases List.mem_cons.1 hd with rfl | h
    · exact .inl hn
    · exact .inr (weightsAll_in h n hn)
/-- an element of a slice argument -/
theorem reach_elem {H : Type} {P : Program} {ts : List TypeId} {ds : List (DataW H)} (h : (DataW.weightsEach P ts ds).all (· ≤ reachBytes) = true) {j : Nat} {t e : TypeId} {d y : DataW H} (ht : ts[j]? = some t) (hd : ds[j]? = some d)
    (hu : P.underlying t = some (.slice e)) (hy : ∃ elems sp, d = .slice elems sp ∧ y ∈ elems) : ∀ m ∈ y.weights P e, m ≤ 140737488351232 := by
  obtain ⟨elems, sp, rfl, hm⟩ := hy
  intro m hm2
  refine of_decide_eq_true (List.all_eq_true.1 h _ (DataW.weights_mem_each ht hd _ ?_))
  simp only [DataW.weights, hu, List.mem_cons, List.mem_append]
  exact .inr (.inl (weightsAll_in hm _ hm2))
/-- a struct's field -/
theorem weights_field {H : Type} {P : Program} {e : TypeId} {fs : Array Field} {y z : DataW H} {parts : List (DataW H)} {i : Nat} {f : Field} (hu : P.underlying e = some (.struct fs)) (hy : y = .agg parts) (hf : fs[i]? = some f) (hz : parts[i]? = some z) :
    ∀ m ∈ z.weights P f.type, m ∈ y.weights P e := by
  subst hy
  intro m hm
  simp only [DataW.weights, hu]
  refine DataW.weights_mem_each (j := i) (t := f.type) ?_ hz m hm
  rw [List.getElem?_map, Array.getElem?_toList, hf]
  rfl
theorem weights_slice {H : Type} {P : Program} {t q : TypeId} {z : DataW H} {n b : Nat} (hu : P.underlying t = some (.slice q)) (hb : P.bytesOf q = b) (hz : (z = .nil ∧ n = 0) ∨ ∃ elems sp, z = .slice elems sp ∧ elems.length = n) {B : Nat} (h : ∀ m ∈ z.weights P t, m ≤ B) : n * b ≤ B := by
  rcases hz with ⟨_, rfl⟩ | ⟨elems, sp, rfl, rfl⟩
  · omega
  · have h1 := h ((elems.length + sp.length) * P.bytesOf q) (by simp [DataW.weights, hu])
    rw [hb] at h1
    have h2 := Nat.mul_le_mul_right b (Nat.le_add_right elems.length sp.length)
    omega
section
variable {H : Type} {enc : TypeId × Value → H} {P : Program} {w : World} {base : Nat} {spare : Nat → Bool} {held : Bool}
/-- a struct of one-cell fields, field by field, with the part that each reads as -/
theorem parse_fields3 {e : TypeId} {fs : Array Field} {n : Nat} {cs : List Value} {y : DataW H × List MemPlace} (ht : P.underlying e = some (.struct fs)) (hone : oneCellFields P fs = true) (hC : P.cellsOf e = fs.size)
    (h : DataW.trod enc P w base spare held n e cs = some y) :
    cs.length = fs.size ∧ ∃ m parts, y.1 = .agg parts ∧ ∀ (j : Nat) (f : Field), fs[j]? = some f → ∃ v z, cs[j]? = some v ∧ DataW.trod enc P w base spare held m f.type [v] = some z ∧ parts[j]? = some z.1 := by
  obtain ⟨ys, m, _, hy, hlen, hyl, hf⟩ := DataW.trod_struct ht h
  rw [hC] at hlen
  refine ⟨hlen, m, ys.map (·.1), by rw [hy], fun j f hj => ?_⟩
  obtain ⟨ho, hk⟩ := Go.Deep.hone_of hone j f hj
  have hjl : j < fs.size := (Array.getElem?_eq_some_iff.1 hj).1
  have h1 := hf j f hj
  rw [ho, hk] at h1
  have hone' : (cs.drop j).take 1 = [cs[j]'(by omega)] := by
    rw [List.drop_eq_getElem_cons (by omega)]
    rfl
  rw [hone'] at h1
  have hjy : j < ys.length := by omega
  exact ⟨_, ys[j], List.getElem?_eq_getElem (by omega), h1.trans (List.getElem?_eq_getElem (by omega)), by rw [List.getElem?_map, List.getElem?_eq_getElem hjy]; rfl⟩
end
end Go.Proofs.Ytfljbiobiobamaa
