/-
  Walks of package tree: fresh. Conditions: none beyond each theorem's own premises.
-/
import Derived.Test.YtgidkaidljiddaaDoorTrM2
import Derived.Test.YtgidkaidljiddaaDoorPtG
import Derived.Test.YtgidkaidljiddaaDoorDrG
import Derived.Test.YtgidkaidljiddaaDoorMap
import Derived.Test.YtgidkaidljiddaaDoorBase
namespace Go.Proofs.YtgidkaidljiddaaDoor
open Go.RowKit Go.Shelf
set_option linter.unusedVariables false
namespace Tr
open Dr Pt

abbrev nv (G : Nat → Nat) (a : Nat) : Value := .pointer (some ⟨G a, 0, none⟩)
abbrev tm (g n : Nat) (h : ByteArray → Option Value) : It := .map Tryd.prog 9 Value.string (fun v : Value => v) g n h
abbrev nC (G : Nat → Nat) (F : Nat → Bool) (a : Nat) : It := .cells (G a) 35 [.bool (F a)]
theorem kstr : KMk Tryd.prog 9 Value.string (fun s => s.size ≤ maxLen) := kmk_string Tryd.underlying9
theorem szp (w : World) : (zeroValue 33).run Tryd.prog w = .ok (.pointer none) w := by kernel_rfl
theorem P_size (l : List By) : (P l).size = (ppath l).length := rfl
theorem par_le (l : List By) : (ppath (par l)).length ≤ (ppath l).length := by
  by_cases h : l = []
  · subst h; exact Nat.le_refl _
  · by_cases h' : par l = []
    · rw [h']
      have e := par_nam h
      rw [ppath_ne h]
      obtain ⟨r, hr⟩ := slashed_head h
      rw [hr]
      show 1 ≤ _
      simp
    · rw [ppath_ne h, ppath_ne h', ← par_nam h, slashed_append, List.length_append, par_nam h]
      exact Nat.le_add_right _ _

set_option maxRecDepth 100000 in
set_option maxHeartbeats 1600000 in
theorem fresh_any (w0 w : World) (L : List It) (i g n : Nat) (h : ByteArray → Option Value) (G : Nat → Nat) (F : Nat → Bool) (nn : Nat) (H : Tree) (l : List By) (e : Int)
    (hS : Sep w0 w L) (hi : L[i]? = some (tm g n h)) (T : Tab H (nv G) h) (I : TI H F nn) (hN : ∀ a, a < nn → ∃ j : Nat, L[j]? = some (nC G F a)) (hf : Fr H F l e) (hl : Cl l) (hs : (ppath l).length ≤ 1048577) :
    Calls Tryd.prog 19 #[.map (some g), .string (P l)] w (Ret w (.int .i64 e)) := by
  have c1 : Hid (Calls Tryd.prog 28 #[.string (P l)] w (Ret w (.tuple #[.string (P (par l)), .string (kb (nam l))]))) := Lib.hid (by
    have := up_any (ppath l) hs w
    rw [parts_ppath l hl] at this
    exact this)
  obtain ⟨gd, hgd⟩ : ∃ gd : Bool, gd = true ↔ GoodB (kb (nam l)) := ⟨decide (GoodB (kb (nam l))), by simp⟩
  have c2 := Lib.hid (fun W => dgood_any (kb (nam l)) gd W hgd)
  have k1 : (P l).size ≤ maxLen := by rw [P_size]; simp only [maxLen]; omega
  have k2 : (P (par l)).size ≤ maxLen := by have := par_le l; rw [P_size]; simp only [maxLen]; omega
  have L1 := Lib.hid (fun (W : World) (hB : Below w.heap.size w W) => (hS.later hB).look i hi kstr k1 Tryd.underlying37 (szp W))
  have L2 := Lib.hid (fun (W : World) (hB : Below w.heap.size w W) => (hS.later hB).look i hi kstr k2 Tryd.underlying37 (szp W))
  have t1 := tab_look T hl
  have t2 := tab_look T (show Cl (par l) from fun x hx => hl x (List.mem_of_mem_take hx))
  rw [t1] at L1
  rw [t2] at L2
  have HN : Hid (∀ (a : Nat) (ha : a < nn) (W : World) (hB : Below w.heap.size w W), W.cell? ⟨G a, 0, none⟩ = some (.bool (F a))) := Lib.hid (fun a ha W hB => by
    obtain ⟨j, hj⟩ := hN a ha
    exact (hS.later hB).cell j hj (k := 0) rfl)
  have HC : Hid (∀ a, H (par l) = some a → a < nn) := Lib.hid (fun a ha => I.low _ a ha)
  clear t1 t2 k1 k2 hs hN T I hS hi
  cases hf with
  | @held a h1 =>
    rw [h1] at L1
    simp only [Option.map, Option.elim] at L1
    clear hgd
    go_enter Tryd.func19, Tryd.ntmps19
    go_wp2_with fail
    refine c1.out.mono ?_; rintro en w1 ⟨rfl, hB⟩
    have l1 := L1.out w1 hB
    have l2 := L2.out w1 hB
    have HB := Lib.hid hB
    clear hB
    go_wp2
    go_ret
    exact Ret.mk rfl HB.out
  | none h1 h2 =>
    rw [h1] at L1
    rw [h2] at L2
    simp only [Option.map, Option.elim] at L1 L2
    clear hgd
    go_enter Tryd.func19, Tryd.ntmps19
    go_wp2_with fail
    refine c1.out.mono ?_; rintro en w1 ⟨rfl, hB⟩
    have l1 := L1.out w1 hB
    have l2 := L2.out w1 hB
    have HB := Lib.hid hB
    clear hB
    go_wp2
    go_ret
    exact Ret.mk rfl HB.out
  | @form a h1 h2 h3 =>
    rw [h1] at L1
    rw [h2] at L2
    simp only [Option.map, Option.elim] at L1 L2
    have HA := Lib.hid (HC.out a h2)
    clear hgd
    go_enter Tryd.func19, Tryd.ntmps19
    go_wp2_with fail
    refine c1.out.mono ?_; rintro en w1 ⟨rfl, hB⟩
    have l1 := L1.out w1 hB
    have l2 := L2.out w1 hB
    have d0 : w1.cell? ⟨G a, 0, none⟩ = some (.bool false) := by rw [HN.out a HA.out w1 hB, h3]
    have HB := Lib.hid hB
    clear hB h3
    go_wp2
    go_ret
    exact Ret.mk rfl HB.out
  | @range a h1 h2 h3 h4 =>
    rw [h1] at L1
    rw [h2] at L2
    simp only [Option.map, Option.elim] at L1 L2
    have HA := Lib.hid (HC.out a h2)
    obtain rfl : gd = false := by cases gd with | false => rfl | true => exact absurd (hgd.1 rfl) h4
    clear hgd
    go_enter Tryd.func19, Tryd.ntmps19
    go_wp2_with fail
    refine c1.out.mono ?_; rintro en w1 ⟨rfl, hB⟩
    have l1 := L1.out w1 hB
    have l2 := L2.out w1 hB
    have d0 : w1.cell? ⟨G a, 0, none⟩ = some (.bool true) := by rw [HN.out a HA.out w1 hB, h3]
    have HB := Lib.hid hB
    clear hB h3
    go_wp2_with fail
    refine (c2.out w1).mono ?_; rintro en w2 ⟨rfl, hB2⟩
    have HB2 := Lib.hid (HB.out.trans (hB2.mono HB.out.size))
    clear hB2
    go_wp2
    go_ret
    exact Ret.mk rfl HB2.out
  | @ok a h1 h2 h3 h4 =>
    rw [h1] at L1
    rw [h2] at L2
    simp only [Option.map, Option.elim] at L1 L2
    have HA := Lib.hid (HC.out a h2)
    obtain rfl : gd = true := hgd.2 h4
    clear hgd
    go_enter Tryd.func19, Tryd.ntmps19
    go_wp2_with fail
    refine c1.out.mono ?_; rintro en w1 ⟨rfl, hB⟩
    have l1 := L1.out w1 hB
    have l2 := L2.out w1 hB
    have d0 : w1.cell? ⟨G a, 0, none⟩ = some (.bool true) := by rw [HN.out a HA.out w1 hB, h3]
    have HB := Lib.hid hB
    clear hB h3
    go_wp2_with fail
    refine (c2.out w1).mono ?_; rintro en w2 ⟨rfl, hB2⟩
    have HB2 := Lib.hid (HB.out.trans (hB2.mono HB.out.size))
    clear hB2
    go_wp2
    go_ret
    exact Ret.mk rfl HB2.out

end Tr
end Go.Proofs.YtgidkaidljiddaaDoor
