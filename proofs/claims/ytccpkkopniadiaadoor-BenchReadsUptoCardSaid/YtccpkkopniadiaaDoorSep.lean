/-
  The call's own memory as a list of items, each in a block of its own, no block twice ('Sep'); what each operation does to the list. Conditions: none beyond each theorem's own premises.
-/
import Derived.Test.YtccpkkopniadiaaDoorBlk
namespace Go.Proofs.YtccpkkopniadiaaDoor
open Go.RowKit
set_option linter.unusedVariables false

/-- the block of a slice that may be written, if there is room in it at all -/
def rowBlk : Value → Option Nat
  | .slice (some a) _ (_ + 1) => some a.block
  | _ => none

/-- slice v, of n elements of 'size' cells each, is the call's own, and holds xs -/
def Row (w : World) (E size : Nat) (v : Value) (n : Nat) (xs : List Value) : Prop :=
  xs.length = n * size ∧ ((n = 0 ∧ (v = .slice none 0 0 ∨ ∃ a, v = .slice (some a) 0 0)) ∨
    ∃ g cap cur, v = .slice (some ⟨g, 0, none⟩) n (cap + 1) ∧ w.heap[g]? = some (.cells cur E (0, 0)) ∧ n ≤ cap + 1 ∧ cap + 1 ≤ maxLen ∧ cur.size = (cap + 1) * size ∧ cur.toList.take (n * size) = xs)

theorem Row.of_own {w : World} {base E size n : Nat} {v : Value} {xs : List Value} (h : w.ownsRow base E size v n xs) : Row w E size v n xs := by
  obtain ⟨h1, h2⟩ := h
  refine ⟨h1, ?_⟩
  rcases h2 with ⟨rfl, h0⟩ | ⟨g, cap, cur, rfl, hb, hh, hn, hm, hs, ht⟩
  · exact .inl ⟨h0, .inl rfl⟩
  · cases cap with
    | zero =>
      have : n = 0 := by omega
      subst this
      exact .inl ⟨rfl, .inr ⟨_, rfl⟩⟩
    | succ cap => exact .inr ⟨g, cap, cur, rfl, hh, hn, hm, hs, ht⟩
theorem Row.nil_ {w : World} {E size : Nat} : Row w E size (.slice none 0 0) 0 [] := ⟨by simp, .inl ⟨rfl, .inl rfl⟩⟩
theorem Row.zero {w : World} {E size : Nat} {A : Option Addr} : Row w E size (.slice A 0 0) 0 [] := ⟨by simp, .inl ⟨rfl, by
  cases A with
  | none => exact .inl rfl
  | some a => exact .inr ⟨a, rfl⟩⟩⟩
theorem Row.slice {w : World} {E size n : Nat} {v : Value} {xs : List Value} (h : Row w E size v n xs) : ∃ A c, v = .slice A n c ∧ n ≤ c := by
  rcases h.2 with ⟨rfl, rfl | ⟨a, rfl⟩⟩ | ⟨g, cap, cur, rfl, _, hn, _⟩
  · exact ⟨_, _, rfl, Nat.le_refl _⟩
  · exact ⟨_, _, rfl, Nat.le_refl _⟩
  · exact ⟨_, _, rfl, hn⟩
theorem Row.live {w : World} {E size n : Nat} {v : Value} {xs : List Value} (h : Row w E size v n xs) : ∀ g, rowBlk v = some g → g < w.heap.size := by
  intro g hg
  rcases h.2 with ⟨rfl, rfl | ⟨a, rfl⟩⟩ | ⟨g', cap, cur, rfl, hh, _⟩
  · simp [rowBlk] at hg
  · simp [rowBlk] at hg
  · simp [rowBlk] at hg
    subst hg
    exact (Array.getElem?_eq_some_iff.1 hh).1
theorem Row.keep {w w' : World} {E size n : Nat} {v : Value} {xs : List Value} (hk : ∀ g, rowBlk v = some g → w'.heap[g]? = w.heap[g]?) (h : Row w E size v n xs) : Row w' E size v n xs := by
  obtain ⟨h1, h2⟩ := h
  refine ⟨h1, ?_⟩
  rcases h2 with h2 | ⟨g, cap, cur, rfl, hh, r⟩
  · exact .inl h2
  · exact .inr ⟨g, cap, cur, rfl, by rw [hk g rfl]; exact hh, r⟩
theorem Row.rd {w : World} {E size n c : Nat} {A : Option Addr} {xs : List Value} (h : Row w E size (.slice A n c) n xs) : Rd w w.heap.size size A n xs := by
  rcases h.2 with ⟨rfl, _⟩ | ⟨g, cap, cur, hv, hh, hn, hm, hs, ht⟩
  · exact ⟨h.1, fun h0 => absurd h0 (by omega)⟩
  · cases hv
    exact Rd.of_own (base := 0) (e := E) (c := cap + 1) ⟨h.1, .inr ⟨g, cap + 1, cur, rfl, Nat.zero_le _, hh, hn, hm, hs, ht⟩⟩
theorem Row.own {w : World} {E size n c : Nat} {v : Value} {xs : List Value} (h : Row w E size v n xs) : w.ownsRow 0 E size v n xs ∨ (n = 0 ∧ ∃ a, v = .slice (some a) 0 0) := by
  rcases h.2 with ⟨rfl, rfl | h2⟩ | ⟨g, cap, cur, rfl, hh, hn, hm, hs, ht⟩
  · exact .inl ⟨h.1, .inl ⟨rfl, rfl⟩⟩
  · exact .inr ⟨rfl, h2⟩
  · exact .inl ⟨h.1, .inr ⟨g, cap + 1, cur, rfl, Nat.zero_le _, hh, hn, hm, hs, ht⟩⟩
/-- an element of a row: where it lies -/
theorem Row.at_ {w : World} {E size n c : Nat} {A : Option Addr} {xs : List Value} (h : Row w E size (.slice A n c) n xs) (h0 : 0 < n) :
    ∃ g, A = some ⟨g, 0, none⟩ ∧ rowBlk (.slice A n c) = some g ∧ ∀ k, (∀ u, xs[k]? = some u → w.cell? ⟨g, k, none⟩ = some u) ∧ w.frozen? ⟨g, k, none⟩ = false ∧
      ∀ u, Row (w.setCell ⟨g, k, none⟩ u) E size (.slice (some ⟨g, 0, none⟩) n c) n (xs.set k u) := by
  rcases h.2 with ⟨rfl, _⟩ | ⟨g, cap, cur, hv, hh, hn, hm, hs, ht⟩
  · omega
  · cases hv
    have ho : w.ownsRow 0 E size (.slice (some ⟨g, 0, none⟩) n (cap + 1)) n xs := ⟨h.1, .inr ⟨g, cap + 1, cur, rfl, Nat.zero_le _, hh, hn, hm, hs, ht⟩⟩
    refine ⟨g, rfl, rfl, fun k => ⟨fun u hu => ?_, ho.frozenAt k, fun u => Row.of_own (ho.stored k u).1⟩⟩
    have hk : k < n * size := by rw [← h.1]; exact (List.getElem?_eq_some_iff.1 hu).1
    rw [ho.cellAt k hk, hu]

section
variable {P : Program} (w : World)
/-- append onto a row, the source nil, empty or not -/
theorem run_append_row (t ty e : TypeId) (i : TypeInfo) (z : Value) (size bytes : Nat) (ht : P.underlying t = some (.slice e)) (hi : P.info? e = some i) (hz : i.zero = some z)
    (hsize : i.size = size) (hby : i.bytes = bytes) (hzs : z.cells.size = size) (hsz : 0 < size)
    (v : Value) (n : Nat) (xs : List Value) (hown : Row w e size v n xs)
    (B : Nat) (A : Option Addr) (m c : Nat) (news : List Value) (hr : Rd w B size A m news) (h1 : ∀ u ∈ news, u.oneCell' = true)
    (h63 : n + m ≤ maxLen) (hbytes : (n + m) * bytes ≤ 140737488355328) :
    ∃ v' w', (Builtin.append_ #[t, t] ty #[v, .slice A m c]).run P w = .ok v' w' ∧ Row w' e size v' (n + m) (xs ++ news) ∧ w.grownBy w' (rowBlk v) ∧
      (rowBlk v' = none ∨ rowBlk v' = rowBlk v ∨ rowBlk v' = some w.heap.size) := by
  have done : ∀ (v : Value) (n : Nat) (xs : List Value), w.ownsRow 0 e size v n xs → v.ownBlock = rowBlk v → n + m ≤ maxLen → (n + m) * bytes ≤ 140737488355328 →
      ∃ v' w', (Builtin.append_ #[t, t] ty #[v, .slice A m c]).run P w = .ok v' w' ∧ Row w' e size v' (n + m) (xs ++ news) ∧ w.grownBy w' (rowBlk v) ∧
      (rowBlk v' = none ∨ rowBlk v' = rowBlk v ∨ rowBlk v' = some w.heap.size) := by
    intro v n xs ho hb h63 hbytes
    obtain ⟨v', w', h2, h3, h4, h5⟩ := run_append_rd (P := P) w 0 t ty e i z size bytes ht hi hz hsize hby hzs hsz v n xs ho B A m c news hr h1 h63 hbytes (Nat.zero_le _)
    refine ⟨v', w', h2, Row.of_own h3, hb ▸ h4, ?_⟩
    rcases h3.2 with ⟨rfl, _⟩ | ⟨g, cap, cur, rfl, _⟩
    · exact .inl rfl
    · cases cap with
      | zero => exact .inl rfl
      | succ cap =>
        right
        have : (Value.slice (some ⟨g, 0, none⟩) (n + m) (cap + 1)).ownBlock = rowBlk (.slice (some ⟨g, 0, none⟩) (n + m) (cap + 1)) := rfl
        rw [← this, ← hb]
        exact h5
  rcases hown.2 with ⟨rfl, rfl | ⟨a, rfl⟩⟩ | ⟨g, cap, cur, rfl, hh, hn, hm, hs, htk⟩
  · exact done _ _ _ ⟨hown.1, .inl ⟨rfl, rfl⟩⟩ rfl h63 hbytes
  · have hx : xs = [] := List.eq_nil_of_length_eq_zero (by simpa using hown.1)
    subst hx
    rcases A with _ | ad
    · have hm0 : m = 0 := by
        rcases Nat.eq_zero_or_pos m with h0 | h0
        · exact h0
        · obtain ⟨b, off, h, _⟩ := hr.2 h0
          cases h
      subst hm0
      have hnews : news = [] := List.eq_nil_of_length_eq_zero (by simpa using hr.1)
      subst hnews
      exact ⟨.slice (some a) 0 0, w, by simp [Builtin.append_, run_underlying ht, sizeOf, typeInfo, hi, Builtin.lenOf, Builtin.firstCells, storeCells], ⟨by simp, .inl ⟨rfl, .inr ⟨_, rfl⟩⟩⟩, World.grownBy.refl w _, .inl rfl⟩
    · have hcells : ∀ j u, news[j]? = some u → w.cell? (ad.add j) = some u := by
        intro j u hu
        rcases Nat.eq_zero_or_pos m with h0 | h0
        · subst h0
          have hn : news = [] := List.eq_nil_of_length_eq_zero (by simpa using hr.1)
          subst hn
          simp at hu
        · obtain ⟨b, off, h, _, hc⟩ := hr.2 h0
          cases h
          have := hc j u hu
          rw [← this]
          congr 1
          unfold Addr.add
          by_cases hj : j = 0 <;> simp [hj]
      rcases Nat.eq_zero_or_pos m with h0 | h0
      · subst h0
        have hn : news = [] := List.eq_nil_of_length_eq_zero (by simpa using hr.1)
        subst hn
        exact ⟨.slice (some a) 0 0, w, by simp [Builtin.append_, run_underlying ht, sizeOf, typeInfo, hi, Builtin.lenOf, Builtin.firstCells, storeCells, loadCells, loadCellsFrom], ⟨by simp, .inl ⟨rfl, .inr ⟨_, rfl⟩⟩⟩, World.grownBy.refl w _, .inl rfl⟩
      · subst hsize
        subst hby
        have hr' := run_append_grow (P := P) w t ty e i z ht hi hz a 0 0 [] (by simp) (by simp) ad m c news hr.1 hcells (by omega) (by simp only [maxLen] at h63; omega) (growslice_fits (by omega) hbytes)
        have hge := grownCap_ge w (0 + m) 0 e
        have hcm : grownCap w (0 + m) 0 e ≤ maxLen := grownCap_le_maxLen w (0 + m) 0 e h63
        have hrow : (w.drew.alloc (.cells (([] : List Value).toArray ++ news.toArray ++ Builtin.zeroCells z.cells (grownCap w (0 + m) 0 e - (0 + m))) e)).ownsRow 0 e i.size
            (.slice (some ⟨w.heap.size, 0, none⟩) (0 + m) (grownCap w (0 + m) 0 e)) (0 + m) ([] ++ news) := by
          refine ⟨by simp [hr.1], .inr ⟨w.heap.size, _, _, rfl, Nat.zero_le _, heap_alloc_new w.drew _, hge, hcm, ?_, ?_⟩⟩
          · simp only [Array.size_append, List.size_toArray, size_zeroCells, hzs, hr.1, List.length_nil]
            rw [Nat.zero_add, Nat.zero_add, ← Nat.add_mul]
            congr 1
            simp only [Nat.zero_add] at hge
            omega
          · simp only [Array.toList_append, Nat.zero_add, List.nil_append]
            rw [← hr.1]
            exact List.take_left
        exact ⟨_, _, hr', Row.of_own hrow, ⟨rfl, rfl, rfl, by simp, fun k hk _ => Below.heap_alloc w.drew _ k hk⟩, by
          cases hcap : grownCap w (0 + m) 0 e with
          | zero => exact .inl rfl
          | succ c => exact .inr (.inr rfl)⟩
  · exact done _ _ _ ⟨hown.1, .inr ⟨g, cap + 1, cur, rfl, Nat.zero_le _, hh, hn, hm, hs, htk⟩⟩ rfl h63 hbytes
end

/-- an item: what it says of the world, and the one block on which it leans -/
structure It where
  blk : Option Nat
  holds : World → Prop
  keep : ∀ w w', (∀ g, blk = some g → w'.heap[g]? = w.heap[g]?) → holds w → holds w'
  live : ∀ w, holds w → ∀ g, blk = some g → g < w.heap.size
def It.cells (g t : Nat) (l : List Value) : It := ⟨some g, fun w => Blk w g t l, fun w w' h hb => by unfold Blk; rw [h g rfl]; exact hb, fun w h g' e => by cases e; exact Blk.lt h⟩
def It.row (E size : Nat) (v : Value) (n : Nat) (xs : List Value) : It := ⟨rowBlk v, fun w => Row w E size v n xs, fun w w' h hb => hb.keep h, fun w h => h.live⟩

structure Sep (w0 w : World) (L : List It) : Prop where
  below : Below w0.heap.size w0 w
  all : ∀ (i : Nat) (x : It), L[i]? = some x → x.holds w
  fresh : ∀ (i : Nat) (x : It) (g : Nat), L[i]? = some x → x.blk = some g → w0.heap.size ≤ g
  apart : ∀ (i j : Nat) (x y : It) (g : Nat), i ≠ j → L[i]? = some x → L[j]? = some y → x.blk = some g → y.blk ≠ some g

section
variable {w0 w w' : World} {L : List It}
theorem Sep.nil_ (w : World) : Sep w w [] := ⟨Below.refl _ _, by simp, by simp, by simp⟩
/-- one item turns -/
theorem Sep.step (H : Sep w0 w L) {i : Nat} {x y : It} (hi : L[i]? = some x) (hg : w.grownBy w' x.blk) (hy : y.holds w') (hb : y.blk = none ∨ y.blk = x.blk ∨ ∃ g, y.blk = some g ∧ w.heap.size ≤ g) : Sep w0 w' (L.set i y) := by
  have hil := (List.getElem?_eq_some_iff.1 hi).1
  have at_ : ∀ j z, (L.set i y)[j]? = some z → (j = i ∧ z = y) ∨ (j ≠ i ∧ L[j]? = some z) := fun j z h => by
    rw [List.getElem?_set] at h
    by_cases hij : i = j
    · subst hij
      rw [if_pos rfl, if_pos hil] at h
      cases h
      exact .inl ⟨rfl, rfl⟩
    · rw [if_neg hij] at h
      exact .inr ⟨fun e => hij e.symm, h⟩
  have kept : ∀ j z, j ≠ i → L[j]? = some z → z.holds w' := fun j z hj hz => by
    refine z.keep w w' (fun g hzg => hg.block g (z.live w (H.all j z hz) g hzg) (fun e => ?_)) (H.all j z hz)
    exact H.apart j i z x g hj hz hi hzg e.symm
  have ylow : ∀ g, y.blk = some g → w0.heap.size ≤ g := fun g hyg => by
    rcases hb with hb | hb | ⟨g', hb, hge⟩
    · rw [hb] at hyg; cases hyg
    · exact H.fresh i x g hi (hb ▸ hyg)
    · rw [hb] at hyg; cases hyg; exact Nat.le_trans H.below.size hge
  have yapart : ∀ j z g, j ≠ i → L[j]? = some z → z.blk = some g → y.blk ≠ some g := fun j z g hj hz hzg hyg => by
    rcases hb with hb | hb | ⟨g', hb, hge⟩
    · rw [hb] at hyg; cases hyg
    · exact H.apart j i z x g hj hz hi hzg (hb ▸ hyg)
    · rw [hb] at hyg; cases hyg
      have := z.live w (H.all j z hz) _ hzg
      omega
  refine ⟨H.below.grown hg H.below.size (fun k hk => H.fresh i x k hi hk), fun j z hz => ?_, fun j z g hz hzg => ?_, fun j k z u g hjk hz hu hzg => ?_⟩
  · rcases at_ j z hz with ⟨_, rfl⟩ | ⟨hj, hz'⟩
    · exact hy
    · exact kept j z hj hz'
  · rcases at_ j z hz with ⟨_, rfl⟩ | ⟨hj, hz'⟩
    · exact ylow g hzg
    · exact H.fresh j z g hz' hzg
  · rcases at_ j z hz with ⟨rfl, rfl⟩ | ⟨hj, hz'⟩
    · rcases at_ k u hu with ⟨rfl, rfl⟩ | ⟨hk, hu'⟩
      · exact absurd rfl hjk
      · exact fun e => yapart k u g hk hu' e hzg
    · rcases at_ k u hu with ⟨rfl, rfl⟩ | ⟨hk, hu'⟩
      · exact yapart j z g hj hz' hzg
      · exact H.apart j k z u g hjk hz' hu' hzg
/-- nothing of it turns -/
theorem Sep.grown (H : Sep w0 w L) (hg : w.grownBy w' none) : Sep w0 w' L :=
  ⟨H.below.grown hg H.below.size (fun k hk => by cases hk), fun j z hz => z.keep w w' (fun g hzg => hg.block g (z.live w (H.all j z hz) g hzg) (by simp)) (H.all j z hz), H.fresh, H.apart⟩
theorem grown_of_below (h : Below w.heap.size w w') : w.grownBy w' none := ⟨h.os, h.tape, h.output, h.size, fun k hk _ => h.block k hk⟩
theorem Sep.later (H : Sep w0 w L) (h : Below w.heap.size w w') : Sep w0 w' L := H.grown (grown_of_below h)
theorem Sep.drew (H : Sep w0 w L) : Sep w0 w.drew L := H.later (Below.refl _ _).drew
theorem Sep.alloc (H : Sep w0 w L) (o : Obj) : Sep w0 (w.alloc o) L := H.later ((Below.refl _ _).alloc (Nat.le_refl _) o)
/-- a new item -/
theorem Sep.push (H : Sep w0 w L) {y : It} (hy : y.holds w) (hb : ∀ g, y.blk = some g → w0.heap.size ≤ g ∧ ∀ (i : Nat) (x : It), L[i]? = some x → x.blk ≠ some g) : Sep w0 w (L ++ [y]) := by
  have at_ : ∀ j z, (L ++ [y])[j]? = some z → (j = L.length ∧ z = y) ∨ (j ≠ L.length ∧ L[j]? = some z) := fun j z h => by
    rw [List.getElem?_append] at h
    split at h
    · rename_i hl
      exact .inr ⟨by omega, h⟩
    · rename_i hl
      have := (List.getElem?_eq_some_iff.1 h).1
      simp at this
      have hj : j = L.length := by omega
      subst hj
      simp at h
      exact .inl ⟨rfl, h.symm⟩
  refine ⟨H.below, fun j z hz => ?_, fun j z g hz hzg => ?_, fun j k z u g hjk hz hu hzg => ?_⟩
  · rcases at_ j z hz with ⟨_, rfl⟩ | ⟨hj, hz'⟩
    · exact hy
    · exact H.all j z hz'
  · rcases at_ j z hz with ⟨_, rfl⟩ | ⟨hj, hz'⟩
    · exact (hb g hzg).1
    · exact H.fresh j z g hz' hzg
  · rcases at_ j z hz with ⟨rfl, rfl⟩ | ⟨hj, hz'⟩
    · rcases at_ k u hu with ⟨rfl, rfl⟩ | ⟨hk, hu'⟩
      · exact absurd rfl hjk
      · exact (hb g hzg).2 k u hu'
    · rcases at_ k u hu with ⟨rfl, rfl⟩ | ⟨hk, hu'⟩
      · exact fun e => (hb g e).2 j z hz' hzg
      · exact H.apart j k z u g hjk hz' hu' hzg
/-- a block just laid -/
theorem Sep.new (H : Sep w0 w L) (t : Nat) (l : List Value) : Sep w0 (w.alloc (.cells l.toArray t)) (L ++ [.cells w.heap.size t l]) := by
  refine (H.alloc _).push (y := .cells w.heap.size t l) (Blk.new w t l) (fun g e => ?_)
  cases e
  exact ⟨H.below.size, fun i x hx e => by have := x.live w (H.all i x hx) _ e; omega⟩
theorem Sep.newRow (H : Sep w0 w L) (E size n : Nat) (l : List Value) (hs : l.length = n * size) (hn : n ≤ maxLen) : Sep w0 (w.alloc (.cells l.toArray E)) (L ++ [.row E size (.slice (some ⟨w.heap.size, 0, none⟩) n n) n l]) := by
  have ho := own_new w E l.toArray size n (by simpa using hs) hn (base := 0) (Nat.zero_le _)
  refine (H.alloc _).push (y := .row E size _ n l) (Row.of_own (by simpa using ho)) (fun g e => ?_)
  have e' : rowBlk (.slice (some ⟨w.heap.size, 0, none⟩) n n) = some g := e
  cases n with
  | zero => simp [rowBlk] at e'
  | succ n =>
    simp [rowBlk] at e'
    subst e'
    exact ⟨H.below.size, fun i x hx e => by have := x.live w (H.all i x hx) _ e; omega⟩
theorem Sep.nilRow (H : Sep w0 w L) (E size : Nat) (A : Option Addr) : Sep w0 w (L ++ [.row E size (.slice A 0 0) 0 []]) := by
  refine H.push (y := .row E size (.slice A 0 0) 0 []) Row.zero (fun g e => ?_)
  have e' : rowBlk (.slice A 0 0) = some g := e
  cases A <;> simp [rowBlk] at e'
/-- what a call has made, beside what there was -/
theorem Sep.join {M : List It} (H : Sep w0 w L) (K : Sep w w' M) : Sep w0 w' (L ++ M) := by
  have H' := H.later K.below
  have at_ : ∀ j z, (L ++ M)[j]? = some z → (j < L.length ∧ L[j]? = some z) ∨ (L.length ≤ j ∧ M[j - L.length]? = some z) := fun j z h => by
    rw [List.getElem?_append] at h
    split at h
    · exact .inl ⟨‹_›, h⟩
    · exact .inr ⟨by omega, h⟩
  refine ⟨H'.below, fun j z hz => ?_, fun j z g hz hzg => ?_, fun j k z u g hjk hz hu hzg => ?_⟩
  · rcases at_ j z hz with ⟨_, hz'⟩ | ⟨_, hz'⟩
    · exact H'.all _ _ hz'
    · exact K.all _ _ hz'
  · rcases at_ j z hz with ⟨_, hz'⟩ | ⟨_, hz'⟩
    · exact H'.fresh _ _ _ hz' hzg
    · exact Nat.le_trans H.below.size (K.fresh _ _ _ hz' hzg)
  · rcases at_ j z hz with ⟨hj, hz'⟩ | ⟨hj, hz'⟩
    · rcases at_ k u hu with ⟨hk, hu'⟩ | ⟨hk, hu'⟩
      · exact H'.apart _ _ _ _ _ hjk hz' hu' hzg
      · intro e
        have h1 := z.live w (H.all _ _ hz') _ hzg
        have h2 := K.fresh _ _ _ hu' e
        omega
    · rcases at_ k u hu with ⟨hk, hu'⟩ | ⟨hk, hu'⟩
      · intro e
        have h1 := u.live w (H.all _ _ hu') _ e
        have h2 := K.fresh _ _ _ hz' hzg
        omega
      · exact K.apart _ _ _ _ _ (by omega) hz' hu' hzg
def pickL (L : List It) (is : List Nat) : List It := is.filterMap fun i => L[i]?
/-- some of the items, in another order -/
theorem Sep.pick_ {L' : List It} (H : Sep w0 w L) (f : Nat → Nat) (hf : ∀ (i : Nat) (x : It), L'[i]? = some x → L[f i]? = some x) (hi : ∀ i j : Nat, i < L'.length → j < L'.length → f i = f j → i = j) : Sep w0 w L' :=
  ⟨H.below, fun i x h => H.all _ _ (hf i x h), fun i x g h => H.fresh _ _ _ (hf i x h), fun i j x y g hij hx hy => H.apart _ _ _ _ _ (fun e => hij (hi i j (List.getElem?_eq_some_iff.1 hx).1 (List.getElem?_eq_some_iff.1 hy).1 e)) (hf i x hx) (hf j y hy)⟩
theorem pick_at (L : List It) : ∀ (is : List Nat), (∀ i ∈ is, i < L.length) → ∀ (k : Nat) (x : It), (pickL L is)[k]? = some x → ∃ j : Nat, is[k]? = some j ∧ L[j]? = some x
  | [], _, k, x, h => by simp [pickL] at h
  | i :: is, hl, k, x, h => by
    have hi := hl i (by simp)
    have e : pickL L (i :: is) = L[i] :: pickL L is := by
      unfold pickL
      rw [List.filterMap_cons, List.getElem?_eq_getElem hi]
    rw [e] at h
    cases k with
    | zero =>
      simp at h
      exact ⟨i, rfl, by rw [List.getElem?_eq_getElem hi, h]⟩
    | succ k => exact pick_at L is (fun j hj => hl j (by simp [hj])) k x (by simpa using h)
theorem Sep.pick (H : Sep w0 w L) (is : List Nat) (hnd : is.Nodup) (hl : ∀ i ∈ is, i < L.length) : Sep w0 w (pickL L is) := by
  refine H.pick_ (fun k => is.getD k 0) (fun k x h => ?_) (fun i j h1 h2 e => ?_)
  · obtain ⟨j, h1, h2⟩ := pick_at L is hl k x h
    rw [List.getD_eq_getElem?_getD, h1]
    exact h2
  · obtain ⟨a, ha, _⟩ := pick_at L is hl i _ (List.getElem?_eq_getElem h1)
    obtain ⟨b, hb, _⟩ := pick_at L is hl j _ (List.getElem?_eq_getElem h2)
    simp only [List.getD_eq_getElem?_getD, ha, hb, Option.getD_some] at e
    subst e
    exact (List.getElem?_inj (List.getElem?_eq_some_iff.1 ha).1 hnd).1 (ha.trans hb.symm)

/-! cells items -/
theorem Sep.cell (H : Sep w0 w L) (i : Nat) {g t k : Nat} {l : List Value} {v : Value} (hi : L[i]? = some (.cells g t l)) (hk : l[k]? = some v) : w.cell? ⟨g, k, none⟩ = some v := Blk.cell (H.all i _ hi) hk
theorem Sep.froz (H : Sep w0 w L) (i : Nat) {g t k : Nat} {l : List Value} (hi : L[i]? = some (.cells g t l)) : w.frozen? ⟨g, k, none⟩ = false := Blk.froz (H.all i _ hi)
theorem Sep.blk (H : Sep w0 w L) (i : Nat) {g t : Nat} {l : List Value} (hi : L[i]? = some (.cells g t l)) : Blk w g t l := H.all i _ hi
theorem Sep.set (H : Sep w0 w L) (i : Nat) {g t k : Nat} {l : List Value} (hi : L[i]? = some (.cells g t l)) (u : Value) : Sep w0 (w.setCell ⟨g, k, none⟩ u) (L.set i (.cells g t (l.set k u))) :=
  H.step hi (grown_set w g k u) (Blk.set (H.all i _ hi) u) (.inr (.inl rfl))
theorem Sep.whole (H : Sep w0 w L) (i : Nat) {g t : Nat} {l : List Value} (hi : L[i]? = some (.cells g t l)) (l' : List Value) : Sep w0 (w.setRow g l'.toArray) (L.set i (.cells g t l')) :=
  H.step hi (grown_row w g _) (Blk.row (H.all i _ hi) l') (.inr (.inl rfl))
theorem Sep.ne (H : Sep w0 w L) (i j : Nat) {x y : It} {g g' : Nat} (hij : i ≠ j) (hi : L[i]? = some x) (hj : L[j]? = some y) (hg : x.blk = some g) (hg' : y.blk = some g') : g ≠ g' := fun e => H.apart i j x y g hij hi hj hg (by rw [hg', e])
/-! rows -/
theorem Sep.rowHas (H : Sep w0 w L) (i : Nat) {E size n : Nat} {v : Value} {xs : List Value} (hi : L[i]? = some (.row E size v n xs)) : Row w E size v n xs := H.all i _ hi
theorem Sep.rd (H : Sep w0 w L) (i : Nat) {E size n c : Nat} {A : Option Addr} {xs : List Value} (hi : L[i]? = some (.row E size (.slice A n c) n xs)) : Rd w w.heap.size size A n xs := Row.rd (H.all i _ hi)
theorem Sep.rowAt (H : Sep w0 w L) (i : Nat) {E size n c : Nat} {A : Option Addr} {xs : List Value} (hi : L[i]? = some (.row E size (.slice A n c) n xs)) (h0 : 0 < n) :
    ∃ g, A = some ⟨g, 0, none⟩ ∧ w0.heap.size ≤ g ∧ ∀ k, (∀ u, xs[k]? = some u → w.cell? ⟨g, k, none⟩ = some u) ∧ w.frozen? ⟨g, k, none⟩ = false ∧
      ∀ u, Sep w0 (w.setCell ⟨g, k, none⟩ u) (L.set i (.row E size (.slice (some ⟨g, 0, none⟩) n c) n (xs.set k u))) := by
  obtain ⟨g, rfl, hb, h⟩ := Row.at_ (H.all i _ hi) h0
  refine ⟨g, rfl, H.fresh i _ g hi hb, fun k => ⟨(h k).1, (h k).2.1, fun u => ?_⟩⟩
  refine H.step hi ?_ ((h k).2.2 u) (.inr (.inl rfl))
  show w.grownBy _ (rowBlk _)
  rw [hb]
  exact grown_set w g k u
/-- behind an append onto row i -/
theorem Sep.appended (H : Sep w0 w L) (i : Nat) {E size n n' : Nat} {v v' : Value} {xs xs' : List Value} (hi : L[i]? = some (.row E size v n xs)) (hg : w.grownBy w' (rowBlk v)) (hr : Row w' E size v' n' xs')
    (hb : rowBlk v' = none ∨ rowBlk v' = rowBlk v ∨ rowBlk v' = some w.heap.size) : Sep w0 w' (L.set i (.row E size v' n' xs')) := by
  refine H.step hi hg hr ?_
  rcases hb with hb | hb | hb
  · exact .inl hb
  · exact .inr (.inl hb)
  · exact .inr (.inr ⟨_, hb, Nat.le_refl _⟩)
end

section
variable {P : Program} {w0 w : World} {L : List It}
theorem wpList_append_sep {ops : Array Oper} {rest : List Oper} {o : Oper} {a : Act} {Q : Exit → Act → World → Prop} (H : Sep w0 w L) (i : Nat) (hgd : o.guard = none) (s x : Operand) (t : TypeId)
    (ho : o.op = .call { callee := .builtin .append, args := #[s, x], argTypes := #[t, t] })
    (e : TypeId) (ti : TypeInfo) (z : Value) (size bytes : Nat) (ht : P.underlying t = some (.slice e)) (hti : P.info? e = some ti) (hz : ti.zero = some z)
    (hsize : ti.size = size) (hby : ti.bytes = bytes) (hzs : z.cells.size = size) (hsz : 0 < size)
    (v : Value) (n : Nat) (xs : List Value) (hs : a.eval s = v) (hi : L[i]? = some (.row e size v n xs))
    (B : Nat) (A : Option Addr) (m c : Nat) (news : List Value) (hx : a.eval x = .slice A m c) (hr : Rd w B size A m news) (h1 : ∀ u ∈ news, u.oneCell' = true)
    (h63 : n + m ≤ maxLen) (hbytes : (n + m) * bytes ≤ 140737488355328)
    (h : ∀ A' c' w', n + m ≤ c' → w.heap.size ≤ w'.heap.size → Sep w0 w' (L.set i (.row e size (.slice A' (n + m) c') (n + m) (xs ++ news))) → wpList P ops Q rest (a.put o.dst (.slice A' (n + m) c')) w') : wpList P ops Q (o :: rest) a w :=
  wpList_plain hgd fun _ hK => by
    obtain ⟨v', w', hrun, h2, h3, h4⟩ := run_append_row (P := P) w t o.type e ti z size bytes ht hti hz hsize hby hzs hsz v n xs (H.rowHas i hi) B A m c news hr h1 h63 hbytes
    obtain ⟨A', c', rfl, hc⟩ := h2.slice
    unfold Oper.wp execOp
    simp only [ho, resolve, invoke, builtin, Sem.run_bind, Sem.run_pure, Result.andThen_ok, List.map_toArray, List.map_cons, List.map_nil, hs, hx, hrun]
    exact hK _ _ (h A' c' w' hc h3.size (H.appended i hi h3 h2 h4))
end

theorem Rd.later {w w' : World} {C n : Nat} {A : Option Addr} {xs : List Value} (h : Rd w w.heap.size C A n xs) (hb : Below w.heap.size w w') : Rd w' w'.heap.size C A n xs := (h.below hb).more hb.size
theorem Rd.drew {w : World} {B C n : Nat} {A : Option Addr} {xs : List Value} (h : Rd w B C A n xs) : Rd w.drew B C A n xs := h
/-- a new block, and a whole row laid into it -/
theorem boxed_below (w : World) (o : Obj) (cs : Array Value) : Below w.heap.size w ((w.alloc o).setRow w.heap.size cs) := below_row ((Below.refl _ _).alloc (Nat.le_refl _) o) (Nat.le_refl _) cs
theorem Sep.boxed {w0 w : World} {L : List It} (H : Sep w0 w L) (t : Nat) (z l : List Value) : Sep w0 ((w.alloc (.cells z.toArray t)).setRow w.heap.size l.toArray) (L ++ [.cells w.heap.size t l]) := by
  have h := (H.new t z).whole L.length (g := w.heap.size) (t := t) (l := z) (by simp) l
  rw [List.set_append_right _ _ (Nat.le_refl _), Nat.sub_self, List.set_cons_zero] at h
  exact h
theorem Sep.drewN {w0 w : World} {L : List It} (H : Sep w0 w L) (n : Nat) : Sep w0 (w.drewN n) L := H.later (below_drewN (Below.refl _ _) n)
theorem step_append_sep {P : Program} {w0 w : World} {L : List It} {ops : Array Oper} {o : Oper} {a : Act} {K : Act → World → Prop} {Q : Exit → Act → World → Prop} {E : Prop} (H : Sep w0 w L) (i : Nat) (hgd : o.guard = none) (s x : Operand) (t : TypeId)
    (ho : o.op = .call { callee := .builtin .append, args := #[s, x], argTypes := #[t, t] })
    (e : TypeId) (ti : TypeInfo) (z : Value) (size bytes : Nat) (ht : P.underlying t = some (.slice e)) (hti : P.info? e = some ti) (hz : ti.zero = some z)
    (hsize : ti.size = size) (hby : ti.bytes = bytes) (hzs : z.cells.size = size) (hsz : 0 < size)
    (v : Value) (n : Nat) (xs : List Value) (hs : a.eval s = v) (hi : L[i]? = some (.row e size v n xs))
    (B : Nat) (A : Option Addr) (m c : Nat) (news : List Value) (hx : a.eval x = .slice A m c) (hr : Rd w B size A m news) (h1 : ∀ u ∈ news, u.oneCell' = true)
    (h63 : n + m ≤ maxLen) (hbytes : (n + m) * bytes ≤ 140737488355328)
    (h : ∀ A' c' w', n + m ≤ c' → w.heap.size ≤ w'.heap.size → Sep w0 w' (L.set i (.row e size (.slice A' (n + m) c') (n + m) (xs ++ news))) → K (a.put o.dst (.slice A' (n + m) c')) w') :
    if Region.wanted o (yielded ops a.tmps) = true then Oper.wp P o a w K Q else E := by
  have hw : Region.wanted o (yielded ops a.tmps) = true := by simp [Region.wanted, hgd]
  rw [if_pos hw]
  obtain ⟨v', w', hrun, h2, h3, h4⟩ := run_append_row (P := P) w t o.type e ti z size bytes ht hti hz hsize hby hzs hsz v n xs (H.rowHas i hi) B A m c news hr h1 h63 hbytes
  obtain ⟨A', c', rfl, hc⟩ := h2.slice
  unfold Oper.wp execOp
  simp only [ho, resolve, invoke, builtin, Sem.run_bind, Sem.run_pure, Result.andThen_ok, List.map_toArray, List.map_cons, List.map_nil, hs, hx, hrun]
  exact h A' c' w' hc h3.size (H.appended i hi h3 h2 h4)

theorem size_of_info {P : Program} {t : TypeId} {i : TypeInfo} {n : Nat} (h : P.info? t = some i) (hs : i.size = n) (w : World) : (sizeOf t).run P w = .ok n w := by
  simp [sizeOf, typeInfo, h, hs]
/-- reslicing what can be read: from k on -/
theorem rd_from {P : Program} {t e : TypeId} {C : Nat} (ht' : P.underlying t = some (.slice e)) (hC : ∀ w, (sizeOf e).run P w = .ok C w) {w : World} {B n c k : Nat} {A : Option Addr} {xs : List Value} (h : Rd w B C A n xs) (hk : k ≤ n) (hc : n ≤ c) (ki : Int) (hki : ki = (k : Int)) :
    ∃ A', (∀ w', (Instr.slice t (.slice A n c) (some (.int .i64 ki)) none none).run P w' = .ok (.slice A' (n - k) (c - k)) w') ∧ Rd w B C A' (n - k) (xs.drop (k * C)) := by
  subst hki
  have he : P.elem t = e := by unfold Program.elem; rw [ht']
  have ht : P.underlying t = some (.slice (P.elem t)) := by rw [he]; exact ht'
  refine ⟨if c = k then A else A.map (·.add (k * C)), fun w' => ?_, ?_, fun h0 => ?_⟩
  · rw [run_slice_l w' t A n c ht .i64 (k : Int) (by omega) (by omega), he, hC]
    simp [Result.andThen, sliced]
  · rw [List.length_drop, h.1, Nat.sub_mul]
  · obtain ⟨b, off, rfl, hb, hc'⟩ := h.2 (by omega)
    rw [if_neg (by omega)]
    refine ⟨b, off + k * C, ?_, hb, fun j u hu => ?_⟩
    · simp only [Option.map_some, Addr.add]
      by_cases hz : k * C = 0
      · simp [hz]
      · simp [hz]
    · rw [List.getElem?_drop] at hu
      rw [Nat.add_assoc]
      exact hc' _ u hu
/-- .. up to k -/
theorem rd_upto {w : World} {B C n k : Nat} {A : Option Addr} {xs : List Value} (h : Rd w B C A n xs) (hk : k ≤ n) : Rd w B C A k (xs.take (k * C)) := by
  refine ⟨?_, fun h0 => ?_⟩
  · rw [List.length_take, h.1]
    exact Nat.min_eq_left (Nat.mul_le_mul_right _ hk)
  · obtain ⟨b, off, rfl, hb, hc'⟩ := h.2 (by omega)
    refine ⟨b, off, rfl, hb, fun j u hu => ?_⟩
    rw [List.getElem?_take] at hu
    split at hu
    · exact hc' j u hu
    · cases hu

/-! a whole element of a row -/
def setMany : List Value → Nat → List Value → List Value
  | xs, _, [] => xs
  | xs, off, v :: vs => setMany (xs.set off v) (off + 1) vs
def wset (w : World) (g off : Nat) : List Value → World
  | [] => w
  | v :: vs => wset (w.setCell ⟨g, off, none⟩ v) g (off + 1) vs
theorem setMany_append (a b : List Value) : ∀ (vs : List Value) (off : Nat), a.length ≤ off → setMany (a ++ b) off vs = a ++ setMany b (off - a.length) vs
  | [], off, h => rfl
  | v :: vs, off, h => by
    rw [setMany, setMany, List.set_append_right _ _ h, setMany_append a _ vs (off + 1) (by omega), show off + 1 - a.length = off - a.length + 1 by omega]
theorem setMany_whole : ∀ (vs a b c : List Value), a.length = vs.length → setMany (b ++ (a ++ c)) b.length vs = b ++ (vs ++ c)
  | [], a, b, c, h => by
    obtain rfl := List.eq_nil_of_length_eq_zero h
    rfl
  | v :: vs, [], b, c, h => by simp at h
  | v :: vs, x :: a, b, c, h => by
    rw [setMany, List.set_append_right _ _ (Nat.le_refl _), Nat.sub_self, List.cons_append, List.set_cons_zero]
    have := setMany_whole vs a (b ++ [v]) c (by simpa using h)
    rw [List.length_append, List.length_singleton, List.append_assoc] at this
    simpa using this
theorem flat_setMany {α : Type} {C : Nat} {cells : α → List Value} (hC : ∀ x, (cells x).length = C) (l : List α) (k : Nat) (x : α) (hk : k < l.length) : setMany (l.flatMap cells) (k * C) (cells x) = (l.set k x).flatMap cells := by
  have h1 : l = l.take k ++ l[k] :: l.drop (k + 1) := by
    rw [← List.drop_eq_getElem_cons hk, List.take_append_drop]
  have h2 : l.set k x = l.take k ++ x :: l.drop (k + 1) := List.set_eq_take_append_cons_drop .. |>.trans (by rw [if_pos hk])
  rw [h2]
  have h3 : (l.take k).length = k := by simp; omega
  have h4 : ((l.take k).flatMap cells).length = k * C := by rw [flat_len hC, h3]
  conv => lhs; rw [h1]
  rw [List.flatMap_append, List.flatMap_cons, List.flatMap_append, List.flatMap_cons, ← h4]
  exact setMany_whole (cells x) (cells l[k]) _ _ (by rw [hC, hC])
theorem Sep.wset {w0 : World} {E size n c g : Nat} : ∀ (vs : List Value) {w : World} {L : List It} (H : Sep w0 w L) (i : Nat) {xs : List Value} (off : Nat) (hi : L[i]? = some (.row E size (.slice (some ⟨g, 0, none⟩) n c) n xs)) (h0 : 0 < n),
    Sep w0 (wset w g off vs) (L.set i (.row E size (.slice (some ⟨g, 0, none⟩) n c) n (setMany xs off vs)))
  | [], w, L, H, i, xs, off, hi, h0 => by
    have : L.set i (.row E size (.slice (some ⟨g, 0, none⟩) n c) n xs) = L := by
      obtain ⟨hl, hx⟩ := List.getElem?_eq_some_iff.1 hi
      rw [← hx, List.set_getElem_self]
    rw [Go.Proofs.YtccpkkopniadiaaDoor.wset, setMany, this]
    exact H
  | v :: vs, w, L, H, i, xs, off, hi, h0 => by
    obtain ⟨g', hg, _, h⟩ := H.rowAt i hi h0
    cases hg
    have h1 := (h off).2.2 v
    have hil := (List.getElem?_eq_some_iff.1 hi).1
    have h2 := Sep.wset vs h1 i (off + 1) (xs := xs.set off v) (by rw [List.getElem?_set, if_pos rfl, if_pos hil]) h0
    rw [List.set_set] at h2
    exact h2
/-- a store of a whole element -/
theorem Sep.elem {α : Type} {w0 w : World} {L : List It} {C : Nat} {cells : α → List Value} (hC : ∀ x, (cells x).length = C) (H : Sep w0 w L) (i : Nat) {E n c g : Nat} {l : List α} (hi : L[i]? = some (.row E C (.slice (some ⟨g, 0, none⟩) n c) n (l.flatMap cells))) (k : Nat) (hk : k < l.length) (h0 : 0 < n) (x : α) :
    Sep w0 (Go.Proofs.YtccpkkopniadiaaDoor.wset w g (k * C) (cells x)) (L.set i (.row E C (.slice (some ⟨g, 0, none⟩) n c) n ((l.set k x).flatMap cells))) := by
  rw [← flat_setMany hC l k x hk]
  exact H.wset _ i _ hi h0
end Go.Proofs.YtccpkkopniadiaaDoor
