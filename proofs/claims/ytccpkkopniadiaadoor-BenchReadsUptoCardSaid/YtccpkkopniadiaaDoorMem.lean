/-
  Words for memory: a slice that reads as a list ('Rd'), and arguments opened to lists. Conditions: none beyond each theorem's own premises.
-/
import Derived.Test.YtccpkkopniadiaaDoorFrame
import Derived.Deep.Draws
import Derived.Laws.OwnMore
import Derived.Laws.Rows
import Derived.BigQuiet
import Derived.WalkSpells
import Derived.Deep.LoopGhost
import Derived.Deep.Cut
import Derived.Deep.DeepCutAuto
import Derived.Deep.CutBlock
import Derived.Lib.Hide
import Derived.WalkLawsBesides
namespace Go.Proofs.YtccpkkopniadiaaDoor
open Go.ChangeShapes Go.WideShapes Go.ChangeAt Go.RowKit

/-- the slice value '.slice A n _' holds the cells xs, C a element, in a block below B -/
def Rd (w : World) (B C : Nat) (A : Option Addr) (n : Nat) (xs : List Value) : Prop :=
  xs.length = n * C ∧ (0 < n → ∃ b off, A = some ⟨b, off, none⟩ ∧ b < B ∧ ∀ j u, xs[j]? = some u → w.cell? ⟨b, off + j, none⟩ = some u)

section
variable {w w' : World} {B B' C n : Nat} {A : Option Addr} {xs : List Value}
theorem Rd.nil_ : Rd w B C A 0 [] := ⟨by simp, fun h => absurd h (by omega)⟩
theorem Rd.keep (h : Rd w B C A n xs) (hk : ∀ p : Addr, p.block < B → w'.cell? p = w.cell? p) : Rd w' B C A n xs :=
  ⟨h.1, fun hn => by
    obtain ⟨b, off, e, hb, hc⟩ := h.2 hn
    exact ⟨b, off, e, hb, fun j u hu => (hk _ hb).trans (hc j u hu)⟩⟩
theorem Rd.more (h : Rd w B C A n xs) (hB : B ≤ B') : Rd w B' C A n xs :=
  ⟨h.1, fun hn => by
    obtain ⟨b, off, e, hb, hc⟩ := h.2 hn
    exact ⟨b, off, e, by omega, hc⟩⟩
theorem Rd.below (h : Rd w B C A n xs) (hb : Below B w w') : Rd w' B C A n xs := h.keep fun _ hp => hb.cell hp
theorem Rd.below' (h : Rd w B C A n xs) (hb : Below B' w w') (hB : B ≤ B') : Rd w' B C A n xs := h.keep fun _ hp => hb.cell (Nat.lt_of_lt_of_le hp hB)
theorem Rd.of_own {base : Nat} {e : TypeId} {c : Nat} (h : w.ownsRow base e C (.slice A n c) n xs) : Rd w w.heap.size C A n xs := by
  refine ⟨h.1, fun hn => ?_⟩
  rcases h.2 with ⟨_, h0⟩ | ⟨g, cap, cur, hv, _, hh, hnc, _, hcs, htk⟩
  · omega
  have hA : A = some ⟨g, 0, none⟩ := by injection hv
  subst hA
  have hlt : g < w.heap.size := by
    rcases Nat.lt_or_ge g w.heap.size with h1 | h1
    · exact h1
    · rw [Array.getElem?_eq_none h1] at hh; cases hh
  refine ⟨g, 0, rfl, hlt, fun j u hu => ?_⟩
  rw [cell_of_row w g (0 + j) cur e (0, 0) hh, Nat.zero_add, ← hu, ← htk, List.getElem?_take, if_pos (by
    have h1 := (List.getElem?_eq_some_iff.1 hu).1
    have h2 := h.1
    omega)]
  simp
end

theorem flat_len {α : Type} {C : Nat} {cells : α → List Value} (hC : ∀ x, (cells x).length = C) (l : List α) : (l.flatMap cells).length = l.length * C := by
  induction l with
  | nil => simp
  | cons x l ih => rw [List.flatMap_cons, List.length_append, ih, hC, List.length_cons, Nat.add_mul]; omega

theorem flat_get {α : Type} {C : Nat} {cells : α → List Value} (hC : ∀ x, (cells x).length = C) (l : List α) (i j : Nat) (x : α) (hx : l[i]? = some x) (hj : j < C) :
    (l.flatMap cells)[i * C + j]? = (cells x)[j]? := by
  induction l generalizing i with
  | nil => simp at hx
  | cons y l ih =>
    rw [List.flatMap_cons]
    cases i with
    | zero =>
      simp at hx
      subst hx
      rw [List.getElem?_append_left (by rw [hC]; omega)]
      simp
    | succ i =>
      rw [List.getElem?_append_right (by rw [hC, Nat.add_mul]; omega), hC]
      rw [show (i + 1) * C + j - C = i * C + j by rw [Nat.add_mul]; omega]
      exact ih i (by simpa using hx)

/-- the cells of element i of a slice that reads as a list -/
theorem Rd.at_ {α : Type} {w : World} {B C : Nat} {A : Option Addr} {n : Nat} {cells : α → List Value} {l : List α} (hC : ∀ x, (cells x).length = C) (h : Rd w B C A n (l.flatMap cells)) (hn : 0 < n) :
    ∃ b off, A = some ⟨b, off, none⟩ ∧ b < B ∧ ∀ (i j : Nat) (x : α) (u : Value), l[i]? = some x → (cells x)[j]? = some u → w.cell? ⟨b, off + (i * C + j), none⟩ = some u := by
  obtain ⟨b, off, e, hb, hc⟩ := h.2 hn
  refine ⟨b, off, e, hb, fun i j x u hx hu => hc _ u ?_⟩
  have hj : j < C := by rw [← hC x]; exact (List.getElem?_eq_some_iff.1 hu).1
  rw [flat_get hC l i j x hx hj, hu]

theorem addr_two (b off p q : Nat) : ((⟨b, off, none⟩ : Addr).add p).add q = ⟨b, off + (p + q), none⟩ := by
  unfold Addr.add
  by_cases hp' : p = 0 <;> by_cases hq : q = 0 <;> simp [hp', hq, Nat.add_assoc]

theorem choose_list {α : Type} (n : Nat) (R : Nat → α → Prop) (h : ∀ i, i < n → ∃ x, R i x) : ∃ l : List α, l.length = n ∧ ∀ i x, l[i]? = some x → R i x := by
  induction n with
  | zero => exact ⟨[], rfl, by simp⟩
  | succ n ih =>
    obtain ⟨l, hl, hr⟩ := ih fun i hi => h i (by omega)
    obtain ⟨x, hx⟩ := h n (by omega)
    refine ⟨l ++ [x], by simp [hl], fun i y hy => ?_⟩
    rw [List.getElem?_append] at hy
    split at hy
    · exact hr i y hy
    · have hi : i = n := by
        have := (List.getElem?_eq_some_iff.1 hy).1
        simp at this
        omega
      subst hi
      simp [hl] at hy
      subst hy
      exact hx

section
variable {H : Type} {enc : TypeId × Value → H} {P : Program} {w : World} {base : Nat} {spare : Nat → Bool} {held : Bool}

/-- A slice argument opened as a list, whatever its elements: 'hp' says how one element's cells read. -/
theorem open_list {α : Type} {t e : TypeId} {C fuel : Nat} {cs : List Value} {x : DataW H × List MemPlace} (cells : α → List Value) (Q : α → Prop) (ht : P.underlying t = some (.slice e)) (hC : P.cellsOf e = C)
    (hl : ∀ x, (cells x).length = C) (h0 : 0 < C)
    (hp : ∀ n cs y, DataW.trod enc P w base spare held n e cs = some y → ∃ x : α, cs = cells x ∧ Q x)
    (h : DataW.trod enc P w base spare held fuel t cs = some x) :
    ∃ (A : Option Addr) (n cap : Nat) (l : List α), cs = [.slice A n cap] ∧ l.length = n ∧ n ≤ cap ∧ cap ≤ maxLen ∧ (A = none → cap = 0) ∧ Rd w w.heap.size C A n (l.flatMap cells) ∧ (∀ x ∈ l, Q x) ∧
      ((x.1 = .nil ∧ n = 0) ∨ ∃ elems sp, x.1 = .slice elems sp ∧ elems.length = n) := by
  rcases Go.Deep.open_slice ht h with ⟨rfl, rfl⟩ | ⟨a, len, cap, m, fu, D, Pl, rfl, hb, hlc, hm, hmm, rfl, hi⟩
  · exact ⟨none, 0, 0, [], rfl, rfl, Nat.le_refl _, Nat.zero_le _, fun _ => rfl, Rd.nil_, by simp, .inl ⟨rfl, rfl⟩⟩
  · have hlm : len ≤ m := by rw [hmm]; split <;> omega
    obtain ⟨l, hll, hR⟩ := choose_list len (fun i (x : α) => Q x ∧ ∀ j, j < C → w.cell? ((a.add (i * C)).add j) = (cells x)[j]?) (fun i hi' => by
      obtain ⟨cs', hcs, htr⟩ := hi i (by omega)
      obtain ⟨x, rfl, hq⟩ := hp _ _ _ htr
      rw [hC] at hcs
      exact ⟨x, hq, (World.cells?_some hcs).2.2⟩)
    refine ⟨some a, len, cap, l, rfl, hll, hlc, hm, (fun h => by cases h), ⟨by rw [flat_len hl, hll], fun hn => ?_⟩, fun x hx => ?_, .inr ⟨_, _, rfl, by simp⟩⟩
    · obtain ⟨b, off, spot⟩ := a
      have hx0 : l[0]? = some (l[0]'(by omega)) := List.getElem?_eq_getElem _
      have h00 := (hR 0 _ hx0).2 0 h0
      have hv : (cells (l[0]'(by omega)))[0]? = some ((cells (l[0]'(by omega)))[0]'(by rw [hl]; exact h0)) := List.getElem?_eq_getElem _
      rw [hv] at h00
      have hspot : spot = none := by simpa [Addr.add] using World.cell?_spot h00
      subst hspot
      have hblk : b < w.heap.size := by
        have := World.block_lt_of_cell? w _ h00
        simpa [Addr.add] using this
      refine ⟨b, off, rfl, hblk, fun j u hu => ?_⟩
      have hj : j < len * C := by
        have := (List.getElem?_eq_some_iff.1 hu).1
        rw [flat_len hl, hll] at this
        exact this
      have hCC : C * (j / C) + j % C = j := Nat.div_add_mod j C
      have hi' : j / C < len := Nat.div_lt_of_lt_mul (by rw [Nat.mul_comm]; exact hj)
      have hr : j % C < C := Nat.mod_lt _ h0
      have hxi : l[j / C]? = some (l[j / C]'(by omega)) := List.getElem?_eq_getElem _
      have hc := (hR _ _ hxi).2 (j % C) hr
      have hg := flat_get hl l (j / C) (j % C) _ hxi hr
      rw [show j / C * C + j % C = j by rw [Nat.mul_comm]; exact hCC, hu] at hg
      rw [← hg, addr_two, show j / C * C + j % C = j by rw [Nat.mul_comm]; exact hCC] at hc
      exact hc
    · obtain ⟨i, hi', rfl⟩ := List.getElem_of_mem hx
      exact (hR i _ (List.getElem?_eq_getElem hi')).1

end

/-! ### A region that draws its order, whose operations read and whose callees write nothing that was there: ONE walk -/

/-- a world behind w0: what w0 held is there as it was -/
structure LaterOf (w0 : World) where
  w : World
  h : Below w0.heap.size w0 w

instance (w0 : World) : Nonempty (LaterOf w0) := ⟨⟨w0, Below.refl _ _⟩⟩
theorem LaterOf.cell {w0 : World} (x : LaterOf w0) {p : Addr} {v : Value} (h : w0.cell? p = some v) : x.w.cell? p = some v :=
  (x.h.cell (World.block_lt_of_cell? w0 _ h)).trans h
theorem LaterOf.old {w0 : World} {o : Obj} (x : LaterOf (w0.alloc o)) {p : Addr} {v : Value} (h : w0.cell? p = some v) : x.w.cell? p = some v :=
  x.cell (by rw [World.cell?_alloc_lt w0 o p (World.block_lt_of_cell? w0 _ h)]; exact h)
theorem LaterOf.new_ {w0 : World} {cs : Array Value} {t : TypeId} (x : LaterOf (w0.alloc (.cells cs t))) (i : Nat) {v : Value} (h : cs[i]? = some v) : x.w.cell? ⟨w0.heap.size, i, none⟩ = some v :=
  x.cell (by rw [cell_of_row _ _ i cs t (0, 0) (heap_alloc_new w0 _)]; exact h)

theorem wp_region_later {P : Program} {id : Nat} {Q : Exit → Act → World → Prop} {a : Act} {w : World} {l : List Oper} (hm : P.follows .mixedOrders = true) (hB : Region.lexB .any l.toArray = true)
    (h : wpQuiet P l.toArray (fun w' => ∃ x : LaterOf w, w' = x.w) (fun a' => ∀ w', (∃ x : LaterOf w, w' = x.w) → Q .normal a' w') l a) : (Code.region id l.toArray true).wp P Q a w :=
  wp_region_quiet (C := fun w' => ∃ x : LaterOf w, w' = x.w) hm hB ⟨⟨_, (Below.refl _ w).drew⟩, rfl⟩ (by simpa using h)

/-- what most contracts say: the value, and that nothing that was there has turned -/
def Ret (w : World) (v : Value) (e : Ending) (w' : World) : Prop := e = .returned v ∧ Below w.heap.size w w'
theorem Ret.mk {w w' : World} {v v' : Value} (h : v' = v) (hw : Below w.heap.size w w') : Ret w v (.returned v') w' := ⟨by rw [h], hw⟩
theorem bool_eq {a b : Bool} (h : a = b) : Value.bool a = Value.bool b := by rw [h]
theorem int_eq {k : IntKind} {a b : Int} (h : a = b) : Value.int k a = Value.int k b := by rw [h]

theorem Calls.later {P : Program} {f : FuncId} {args : Array Value} {w : World} {x : LaterOf w} {v : Value} (h : Calls P f args x.w (Ret x.w v)) :
    Calls P f args x.w fun e w'' => e = .returned v ∧ ∃ y : LaterOf w, w'' = y.w :=
  h.mono fun _ w' ⟨he, hb⟩ => ⟨he, ⟨w', x.h.trans (hb.mono x.h.size)⟩, rfl⟩

theorem min2_ex (P : Program) (a b : Int) : ∃ m, Hid (m = if b < a then b else a) ∧ ∀ (ts : Array TypeId) (t : TypeId) (k : IntKind) (w : World), (Builtin.min_ ts t #[.int k a, .int k b]).run P w = .ok (.int k m) w :=
  ⟨_, Lib.hid rfl, fun ts t k w => run_min_int2 (P := P) (w := w) ts t k k a b⟩
theorem max2_ex (P : Program) (a b : Int) : ∃ m, Hid (m = if b > a then b else a) ∧ ∀ (ts : Array TypeId) (t : TypeId) (k : IntKind) (w : World), (Builtin.max_ ts t #[.int k a, .int k b]).run P w = .ok (.int k m) w :=
  ⟨_, Lib.hid rfl, fun ts t k w => run_max_int2 (P := P) (w := w) ts t k k a b⟩
theorem min3_ex (P : Program) (a b c : Int) : ∃ m, Hid (m = if c < (if b < a then b else a) then c else (if b < a then b else a)) ∧ ∀ (ts : Array TypeId) (t : TypeId) (k : IntKind) (w : World), (Builtin.min_ ts t #[.int k a, .int k b, .int k c]).run P w = .ok (.int k m) w :=
  ⟨_, Lib.hid rfl, fun ts t k w => run_min_int3 (P := P) (w := w) ts t k k k a b c⟩
theorem max3_ex (P : Program) (a b c : Int) : ∃ m, Hid (m = if c > (if b > a then b else a) then c else (if b > a then b else a)) ∧ ∀ (ts : Array TypeId) (t : TypeId) (k : IntKind) (w : World), (Builtin.max_ ts t #[.int k a, .int k b, .int k c]).run P w = .ok (.int k m) w :=
  ⟨_, Lib.hid rfl, fun ts t k w => run_max_int3 (P := P) (w := w) ts t k k k a b c⟩
end Go.Proofs.YtccpkkopniadiaaDoor
