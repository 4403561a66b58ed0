/-
  How many paths a node has, counted by the nodes' blocks: the table of links, with pointers for keys. Conditions: none beyond each theorem's own premises.
-/
import Derived.Test.YtgidkaidljiddaaDoorTrL
import Derived.Test.YtgidkaidljiddaaDoorTrW6
import Derived.Test.YtgidkaidljiddaaDoorMapP
namespace Go.Proofs.YtgidkaidljiddaaDoor
open Go.RowKit Go.Shelf
set_option linter.unusedVariables false
namespace Tr
open Dr Pt

/-- the nodes' blocks -/
def NS (G : Nat → Nat) (nn : Nat) : Nat → Prop := fun g => ∃ a, a < nn ∧ g = G a
theorem live_of {w0 w : World} {L : List It} {G : Nat → Nat} {F : Nat → Bool} {nn : Nat} (H : Sep w0 w L) (hN : ∀ a, a < nn → ∃ j : Nat, L[j]? = some (nC G F a)) : Pm.Live (NS G nn) w := by
  rintro g ⟨a, ha, rfl⟩
  obtain ⟨j, hj⟩ := hN a ha
  exact ⟨_, _, H.blk j hj⟩
theorem SL_inj {w0 w : World} {g n : Nat} {h : ByteArray → Option Value} {X : List It} {G : Nat → Nat} {F : Nat → Bool} {nn : Nat} (H : Sep w0 w (SL g n h X G F nn)) {a b : Nat} (ha : a < nn) (hb : b < nn) (e : G a = G b) : a = b := by
  rcases Nat.lt_trichotomy a b with h1 | h1 | h1
  · exact absurd e (H.ne (X.length + a + 1) (X.length + b + 1) (by omega) (SL_node ha) (SL_node hb) rfl rfl)
  · exact h1
  · exact absurd e (H.ne (X.length + a + 1) (X.length + b + 1) (by omega) (SL_node ha) (SL_node hb) rfl rfl)
def pk (g : Nat) : Value := .pointer (some ⟨g, 0, none⟩)
theorem pk_inj (x y : Nat) (e : pk x = pk y) : x = y := by
  have h := Value.pointer.inj e
  simpa using h
theorem node_info : (Tryd.prog.info? 35).map (·.size) = some 1 := by kernel_rfl
theorem kptr (G : Nat → Nat) (nn : Nat) : Pm.KMk (NS G nn) Tryd.prog 33 pk (NS G nn) := by
  have h := node_info
  cases hh : Tryd.prog.info? 35 with
  | none => rw [hh] at h; cases h
  | some j =>
    rw [hh] at h
    have hsz : j.size ≠ 0 := by
      have e : j.size = 1 := by simpa using h
      omega
    exact Pm.KMk.mk (Pm.ptr_keyed _ Tryd.underlying33 hh hsz) pk_inj (fun x hx => ⟨x, hx, rfl⟩)
abbrev lm (G : Nat → Nat) (nn g n : Nat) (h : Nat → Option Int) : It := Pm.PMap (NS G nn) Tryd.prog 33 pk (Value.int .i64) g n h
theorem szi (w : World) : (zeroValue 3).run Tryd.prog w = .ok (.int .i64 0) w := by kernel_rfl
theorem elim_getD (o : Option Int) : o.elim (.int .i64 0) (Value.int .i64) = .int .i64 (o.getD 0) := by cases o <;> rfl

/-- the table of links, while it is filled -/
def LinkR (H : Tree) (G : Nat → Nat) (nn : Nat) (todo : List ByteArray) (hl : Nat → Option Int) (cap : Nat) : Prop :=
  ∀ a, a < nn → ∃ ls : List (List By), Part H a todo ls ∧ (hl (G a)).getD 0 = (ls.length : Int) ∧ ls.length + todo.length ≤ cap
theorem link_start {H : Tree} {G : Nat → Nat} {nn : Nat} {v : Nat → Value} {h : ByteArray → Option Value} (T : Tab H v h) (hcl : ∀ m a, H m = some a → Cl m) {todo : List ByteArray} (hm : ∀ x, x ∈ todo ↔ (h x).isSome = true) : LinkR H G nn todo mno todo.length :=
  fun a ha => ⟨[], part_start T hcl hm, rfl, by simp⟩
theorem link_next {H : Tree} {G : Nat → Nat} {nn : Nat} (hcl : ∀ m a, H m = some a → Cl m) (hG : ∀ a b, a < nn → b < nn → G a = G b → a = b) {l : List By} {b : Nat} {todo todo' : List ByteArray} {hl : Nat → Option Int} {cap : Nat}
    (R : LinkR H G nn todo hl cap) (hb : b < nn) (hlb : H l = some b) (hin : P l ∈ todo) (hlen : todo'.length + 1 = todo.length) (hme : ∀ y, y ∈ todo' ↔ (y ≠ P l ∧ y ∈ todo)) {c : Int} (hc : (hl (G b)).getD 0 = c) :
    LinkR H G nn todo' (mup hl (G b) (c + 1)) cap := fun a ha => by
  obtain ⟨ls, h1, h2, h3⟩ := R a ha
  by_cases e : a = b
  · subst e
    refine ⟨ls ++ [l], part_add hcl h1 hlb hin hme, ?_, by rw [List.length_append, List.length_singleton]; omega⟩
    rw [mup_same, List.length_append, List.length_singleton]
    rw [hc] at h2
    simp only [Option.getD_some]
    omega
  · refine ⟨ls, part_skip hcl h1 hlb (fun e2 => e e2.symm) hme, ?_, by omega⟩
    rw [mup_other _ _ (fun e2 => e (hG a b ha hb e2))]
    exact h2
theorem link_end {H : Tree} {G : Nat → Nat} {nn : Nat} {hl : Nat → Option Int} {cap a : Nat} (R : LinkR H G nn [] hl cap) (ha : a < nn) : Cnt H a ((hl (G a)).getD 0) := by
  obtain ⟨ls, h1, h2, _⟩ := R a ha
  rw [h2]
  exact part_end h1
/-- how long the paths get -/
theorem way_long {H H' : Tree} {F F' : Nat → Bool} {nn nn' : Nat} {o : Op} {e : Int} {K : Nat} (hw : Way H F nn o e H' F' nn') (hp : (ppath o.p).length ≤ 1048577) (hq : (ppath o.q).length ≤ 1048577) (hp0 : ∀ a, H [] = some a → 1 ≤ K)
    (hK : ∀ m a, H m = some a → (ppath m).length ≤ K) : ∀ m a, H' m = some a → (ppath m).length ≤ K + 1048577 := by
  have base : ∀ m a, H m = some a → (ppath m).length ≤ K + 1048577 := fun m a h => Nat.le_trans (hK m a h) (Nat.le_add_right _ _)
  have hput : ∀ (l : List By) (b : Nat), (ppath l).length ≤ 1048577 → ∀ m a, put H l b m = some a → (ppath m).length ≤ K + 1048577 := fun l b hl m a h => by
    unfold put at h
    split at h
    · next e => rw [e]; omega
    · exact base m a h
  cases hw with
  | new h hf => exact hput _ _ hp
  | link h hp' hF hf => exact hput _ _ hq
  | rem h hp' h0 hno =>
    intro m a hm
    unfold del at hm
    split at hm
    · cases hm
    · exact base m a hm
  | move h hp' h0 hq' hi hf =>
    intro m a hm
    unfold mv at hm
    split at hm
    · next e =>
      obtain ⟨t, rfl⟩ := e
      rw [List.drop_left] at hm
      have h1 := hK _ _ hm
      by_cases ht : t = []
      · subst ht
        rw [List.append_nil]
        omega
      · have h2 : (ppath (o.q ++ t)).length ≤ (ppath o.q).length + (slashed t).length := by
          rw [ppath_ne (show o.q ++ t ≠ [] by simp [ht]), slashed_append, List.length_append]
          by_cases hq0 : o.q = []
          · rw [hq0]; simp [slashed]
          · rw [ppath_ne hq0]; exact Nat.le_refl _
        have h3 : (slashed t).length ≤ (ppath (o.p ++ t)).length := by
          rw [ppath_ne (show o.p ++ t ≠ [] by simp [ht]), slashed_append, List.length_append]
          exact Nat.le_add_left _ _
        omega
    · split at hm
      · cases hm
      · exact base m a hm
  | _ => exact base
end Tr
end Go.Proofs.YtgidkaidljiddaaDoor
