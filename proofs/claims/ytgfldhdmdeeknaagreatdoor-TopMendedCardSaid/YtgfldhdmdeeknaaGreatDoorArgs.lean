/-
  Base texts in one: Parse, Bulk, Bulk2. Conditions: none beyond each theorem's own premises.
-/
import Derived.Test.YtgfldhdmdeeknaaGreatDoorBase
import Derived.Test.YtgfldhdmdeeknaaGreatDoorRows
/-! Arguments opened: bounds of numbers, structs of one-cell fields, slices. -/
namespace Go.Proofs.YtgfldhdmdeeknaaGreatDoor
open Go.ChangeShapes Go.WideShapes Go.ChangeAt Go.RowKit Go.Deep

theorem i64_bounds {n : Int} (h : (Lit.int .i64 n).wf = true) : -9223372036854775808 ≤ n ∧ n ≤ 9223372036854775807 := by simpa [Lit.wf, IntKind.min, IntKind.max, IntKind.signed, IntKind.bits] using h
theorem u8_bounds {n : Int} (h : (Lit.int .u8 n).wf = true) : 0 ≤ n ∧ n ≤ 255 := by simpa [Lit.wf, IntKind.min, IntKind.max, IntKind.signed, IntKind.bits] using h
theorem u16_bounds {n : Int} (h : (Lit.int .u16 n).wf = true) : 0 ≤ n ∧ n ≤ 65535 := by simpa [Lit.wf, IntKind.min, IntKind.max, IntKind.signed, IntKind.bits] using h
theorem u64_bounds {n : Int} (h : (Lit.int .u64 n).wf = true) : 0 ≤ n ∧ n ≤ 18446744073709551615 := by simpa [Lit.wf, IntKind.min, IntKind.max, IntKind.signed, IntKind.bits] using h
def I64 (n : Int) : Prop := -9223372036854775808 ≤ n ∧ n ≤ 9223372036854775807

section
variable {H : Type} {enc : TypeId × Value → H} {P : Program} {w : World} {base : Nat} {spare : Nat → Bool} {held : Bool}
/-- a struct of one-cell fields, field by field -/
theorem parse_fields {e : TypeId} {fs : Array Field} {n : Nat} {cs : List Value} {y : DataW H × List MemPlace} (ht : P.underlying e = some (.struct fs)) (hone : oneCellFields P fs = true) (hC : P.cellsOf e = fs.size)
    (h : DataW.trod enc P w base spare held n e cs = some y) :
    cs.length = fs.size ∧ ∃ m, ∀ (j : Nat) (f : Field), fs[j]? = some f → ∃ v z, cs[j]? = some v ∧ DataW.trod enc P w base spare held m f.type [v] = some z := by
  obtain ⟨ys, m, _, _, hlen, hyl, hf⟩ := DataW.trod_struct ht h
  rw [hC] at hlen
  refine ⟨hlen, m, fun j f hj => ?_⟩
  obtain ⟨ho, hk⟩ := Go.Deep.hone_of hone j f hj
  have hjl : j < fs.size := (Array.getElem?_eq_some_iff.1 hj).1
  have h1 := hf j f hj
  rw [ho, hk] at h1
  have hone' : (cs.drop j).take 1 = [cs[j]'(by omega)] := by
    rw [List.drop_eq_getElem_cons (by omega)]
    rfl
  rw [hone'] at h1
  exact ⟨_, _, List.getElem?_eq_getElem (by omega), h1.trans (List.getElem?_eq_getElem (by omega))⟩
theorem parse_int {t : TypeId} {k : IntKind} {m : Nat} {v : Value} {z : DataW H × List MemPlace} (ht : P.underlying t = some (.int k)) (h : DataW.trod enc P w base spare held m t [v] = some z) : ∃ n, v = .int k n ∧ (Lit.int k n).wf = true := by
  obtain ⟨n, hn, _, hw⟩ := DataW.trod_int ht h
  exact ⟨n, by simpa using hn, hw⟩
theorem parse_bool {t : TypeId} {m : Nat} {v : Value} {z : DataW H × List MemPlace} (ht : P.underlying t = some .bool) (h : DataW.trod enc P w base spare held m t [v] = some z) : ∃ b, v = .bool b := by
  obtain ⟨n, hn, _⟩ := DataW.trod_bool ht h
  exact ⟨n, by simpa using hn⟩
theorem parse_string {t : TypeId} {m : Nat} {v : Value} {z : DataW H × List MemPlace} (ht : P.underlying t = some .string) (h : DataW.trod enc P w base spare held m t [v] = some z) : ∃ s : ByteArray, v = .string s ∧ s.size ≤ maxLen := by
  obtain ⟨n, hn, _, hs⟩ := DataW.trod_string ht h
  exact ⟨n, by simpa using hn, hs⟩
/-- a slice argument: its value's shape out of its reading alone -/
theorem slice_of {v : Value} {A : Option Addr} {n cap : Nat} (h : v.cells.toList = [.slice A n cap]) (hv : ∃ A' n' c', v = .slice A' n' c') : v = .slice A n cap := by
  obtain ⟨A', n', c', rfl⟩ := hv
  simpa [Value.cells] using h
end
end Go.Proofs.YtgfldhdmdeeknaaGreatDoor
/-! What the bound of an 'Upto' statement gives: so many values at the most. -/
namespace Go.Proofs.YtgfldhdmdeeknaaGreatDoor

theorem bulk_one {H : Type} (d : DataW H) : 1 ≤ Rows.uptoBulk d := by
  cases d with
  | lit l => cases l <;> simp [Rows.uptoBulk]
  | nil => simp [Rows.uptoBulk]
  | ptr d => simp [Rows.uptoBulk]
  | slice elems spare => simp [Rows.uptoBulk]
  | agg parts => simp [Rows.uptoBulk]
  | iface t d => simp [Rows.uptoBulk]
  | map entries => simp [Rows.uptoBulk]
  | held h => simp [Rows.uptoBulk]
theorem bulk_len {H : Type} (l : List (DataW H)) : l.length ≤ Rows.uptoBulkAll l := by
  induction l with
  | nil => simp [Rows.uptoBulkAll]
  | cons x r ih => have := bulk_one x; simp only [Rows.uptoBulkAll, List.length_cons]; omega
theorem bulk_part {H : Type} {d : DataW H} {l : List (DataW H)} (h : d ∈ l) : Rows.uptoBulk d ≤ Rows.uptoBulkAll l := by
  induction l with
  | nil => cases h
  | cons x r ih =>
    simp only [Rows.uptoBulkAll]
    cases List.mem_cons.1 h with
    | inl e => subst e; omega
    | inr e => have := ih e; omega
theorem bulk_bound {H : Type} {l : List (DataW H)} (hk : Rows.uptoSmall H l = true) : Rows.uptoBulkAll l ≤ 1048576 := of_decide_eq_true hk
/-- a slice argument's length -/
theorem bulk_slice {H : Type} {d : DataW H} {l : List (DataW H)} {n : Nat} (hk : Rows.uptoSmall H l = true) (hd : d ∈ l) (h : (d = .nil ∧ n = 0) ∨ ∃ elems sp, d = .slice elems sp ∧ elems.length = n) : n ≤ 1048576 := by
  have h1 := bulk_part hd
  have h2 := bulk_bound hk
  rcases h with ⟨_, h0⟩ | ⟨elems, sp, rfl, hn⟩
  · omega
  · have h3 := bulk_len elems
    simp only [Rows.uptoBulk] at h1
    omega
end Go.Proofs.YtgfldhdmdeeknaaGreatDoor
/-! A slice argument opened as a list, each element with the datum that it reads as. Conditions: none beyond the theorem's own premises. -/
namespace Go.Proofs.YtgfldhdmdeeknaaGreatDoor
open Go.ChangeShapes Go.WideShapes Go.ChangeAt Go.RowKit Go.Deep
section
variable {H : Type} {enc : TypeId × Value → H} {P : Program} {w : World} {base : Nat} {spare : Nat → Bool} {held : Bool}
/-- A slice argument opened as a list, whatever its elements: 'hp' says how one element's cells read. -/
theorem open_list2 {α : Type} {t e : TypeId} {C fuel : Nat} {cs : List Value} {x : DataW H × List MemPlace} (cells : α → List Value) (Q : α → DataW H → Prop) (ht : P.underlying t = some (.slice e)) (hC : P.cellsOf e = C)
    (hl : ∀ x, (cells x).length = C) (h0 : 0 < C)
    (hp : ∀ n cs y, DataW.trod enc P w base spare held n e cs = some y → ∃ x : α, cs = cells x ∧ Q x y.1)
    (h : DataW.trod enc P w base spare held fuel t cs = some x) :
    ∃ (A : Option Addr) (n cap : Nat) (l : List α), cs = [.slice A n cap] ∧ l.length = n ∧ n ≤ cap ∧ cap ≤ maxLen ∧ (A = none → cap = 0) ∧ Rd w w.heap.size C A n (l.flatMap cells) ∧ (∀ a ∈ l, ∃ y, Q a y ∧ ∃ elems sp, x.1 = .slice elems sp ∧ y ∈ elems) ∧
      ((x.1 = .nil ∧ n = 0) ∨ ∃ elems sp, x.1 = .slice elems sp ∧ elems.length = n) := by
  rcases Go.Deep.open_slice ht h with ⟨rfl, rfl⟩ | ⟨a, len, cap, m, fu, D, Pl, rfl, hb, hlc, hm, hmm, rfl, hi⟩
  · exact ⟨none, 0, 0, [], rfl, rfl, Nat.le_refl _, Nat.zero_le _, fun _ => rfl, Rd.nil_, by simp, .inl ⟨rfl, rfl⟩⟩
  · have hlm : len ≤ m := by rw [hmm]; split <;> omega
    obtain ⟨l, hll, hR⟩ := choose_list len (fun i (x : α) => Q x (D i) ∧ ∀ j, j < C → w.cell? ((a.add (i * C)).add j) = (cells x)[j]?) (fun i hi' => by
      obtain ⟨cs', hcs, htr⟩ := hi i (by omega)
      obtain ⟨x, rfl, hq⟩ := hp _ _ _ htr
      rw [hC] at hcs
      exact ⟨x, hq, (World.cells?_some hcs).2.2⟩)
    refine ⟨some a, len, cap, l, rfl, hll, hlc, hm, (fun h => by cases h), ⟨by rw [flat_len hl, hll], fun hn => ?_⟩, fun x hx => ?_, .inr ⟨_, _, rfl, by simp⟩⟩
    · obtain ⟨b, off, spot⟩ := a
      have hx0 : l[0]? = some (l[0]'(by omega)) := List.getElem?_eq_getElem _
      have h00 := (hR 0 _ hx0).2 0 h0
      have hv : (cells (l[0]'(by omega)))[0]? = some ((cells (l[0]'(by omega)))[0]'(by rw [hl]; exact h0)) := List.getElem?_eq_getElem _
      rw [hv] at h00
      have hspot : spot = none := by simpa [Addr.add] using World.cell?_spot h00
      subst hspot
      have hblk : b < w.heap.size := by
        have := World.block_lt_of_cell? w _ h00
        simpa [Addr.add] using this
      refine ⟨b, off, rfl, hblk, fun j u hu => ?_⟩
      have hj : j < len * C := by
        have := (List.getElem?_eq_some_iff.1 hu).1
        rw [flat_len hl, hll] at this
        exact this
      have hCC : C * (j / C) + j % C = j := Nat.div_add_mod j C
      have hi' : j / C < len := Nat.div_lt_of_lt_mul (by rw [Nat.mul_comm]; exact hj)
      have hr : j % C < C := Nat.mod_lt _ h0
      have hxi : l[j / C]? = some (l[j / C]'(by omega)) := List.getElem?_eq_getElem _
      have hc := (hR _ _ hxi).2 (j % C) hr
      have hg := flat_get hl l (j / C) (j % C) _ hxi hr
      rw [show j / C * C + j % C = j by rw [Nat.mul_comm]; exact hCC, hu] at hg
      rw [← hg, addr_two, show j / C * C + j % C = j by rw [Nat.mul_comm]; exact hCC] at hc
      exact hc
    · obtain ⟨i, hi', rfl⟩ := List.getElem_of_mem hx
      exact ⟨D i, (hR i _ (List.getElem?_eq_getElem hi')).1, _, _, rfl, List.mem_map.2 ⟨i, List.mem_range.2 (by omega), rfl⟩⟩
/-- a struct of one-cell fields, field by field -/
theorem parse_fields2 {e : TypeId} {fs : Array Field} {n : Nat} {cs : List Value} {y : DataW H × List MemPlace} (ht : P.underlying e = some (.struct fs)) (hone : oneCellFields P fs = true) (hC : P.cellsOf e = fs.size)
    (h : DataW.trod enc P w base spare held n e cs = some y) :
    cs.length = fs.size ∧ ∃ m parts, y.1 = .agg parts ∧ ∀ (j : Nat) (f : Field), fs[j]? = some f → ∃ v z, cs[j]? = some v ∧ DataW.trod enc P w base spare held m f.type [v] = some z ∧ z.1 ∈ parts := by
  obtain ⟨ys, m, _, hy, hlen, hyl, hf⟩ := DataW.trod_struct ht h
  rw [hC] at hlen
  refine ⟨hlen, m, ys.map (·.1), by rw [hy], fun j f hj => ?_⟩
  obtain ⟨ho, hk⟩ := Go.Deep.hone_of hone j f hj
  have hjl : j < fs.size := (Array.getElem?_eq_some_iff.1 hj).1
  have h1 := hf j f hj
  rw [ho, hk] at h1
  have hone' : (cs.drop j).take 1 = [cs[j]'(by omega)] := by
    rw [List.drop_eq_getElem_cons (by omega)]
    rfl
  rw [hone'] at h1
  exact ⟨_, _, List.getElem?_eq_getElem (by omega), h1.trans (List.getElem?_eq_getElem (by omega)), List.mem_map.2 ⟨_, List.getElem_mem _, rfl⟩⟩

end
theorem bulk_agg {H : Type} {y d : DataW H} {parts : List (DataW H)} (h : d = .agg parts) (hy : y ∈ parts) : Rows.uptoBulk y ≤ Rows.uptoBulk d := by
  subst h
  have := bulk_part hy
  simp only [Rows.uptoBulk]
  omega
theorem bulk_elem {H : Type} {y d : DataW H} (h : ∃ elems sp, d = .slice elems sp ∧ y ∈ elems) : Rows.uptoBulk y ≤ Rows.uptoBulk d := by
  obtain ⟨elems, sp, rfl, hy⟩ := h
  have := bulk_part hy
  simp only [Rows.uptoBulk]
  omega
theorem bulk_len_slice {H : Type} {d : DataW H} {n : Nat} (h : (d = .nil ∧ n = 0) ∨ ∃ elems sp, d = .slice elems sp ∧ elems.length = n) : n ≤ Rows.uptoBulk d := by
  rcases h with ⟨_, h0⟩ | ⟨elems, sp, rfl, hn⟩
  · omega
  · have h3 := bulk_len elems
    simp only [Rows.uptoBulk]
    omega
end Go.Proofs.YtgfldhdmdeeknaaGreatDoor
