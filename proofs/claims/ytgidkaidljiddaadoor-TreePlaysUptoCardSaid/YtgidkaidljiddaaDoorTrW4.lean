/-
  Walks of package tree: move, where nothing moves. Conditions: none beyond each theorem's own premises.
-/
import Derived.Test.YtgidkaidljiddaaDoorTrW3
namespace Go.Proofs.YtgidkaidljiddaaDoor
open Go.RowKit Go.Shelf
set_option linter.unusedVariables false
namespace Tr
open Dr Pt

theorem P_root : ((P []).toList == [47]) = true := by
  have : (P []).toList = [47] := by rw [ByteArray.toList_eq]; rfl
  rw [this]
  rfl
theorem P_notroot {l : List By} (hl : Cl l) (h : l ≠ []) : ((P l).toList == [47]) = false := by
  have e := P_ne (l := []) (m := l) (fun x hx => by cases hx) hl h
  have : (P []).toList = [47] := by rw [ByteArray.toList_eq]; rfl
  rwa [this] at e
theorem within_P {p q : List By} (hp : Cl p) (hq : Cl q) (hs : (ppath p).length ≤ 1048577) (hs' : (ppath q).length ≤ 1048577) (b : Bool) (hb : b = true ↔ p <+: q) (w : World) : Calls Tryd.prog 30 #[.string (P q), .string (P p)] w (Ret w (.bool b)) := by
  have h := within_any (ppath q) (ppath p) hs' hs w
  rw [parts_ppath q hq, parts_ppath p hp] at h
  have e : ((Pt.cmn q p : Int) == (p.length : Int)) = b := by
    rw [Bool.eq_iff_iff, hb, ← cmn_iff q p, beq_iff_eq]
    omega
  rw [e] at h
  exact h

set_option maxRecDepth 100000 in
set_option maxHeartbeats 1600000 in
theorem move_no (w0 w : World) (L : List It) (i g n : Nat) (h : ByteArray → Option Value) (G : Nat → Nat) (F : Nat → Bool) (nn : Nat) (H : Tree) (p q : List By) (e : Int)
    (hS : Sep w0 w L) (hi : L[i]? = some (tm g n h)) (T : Tab H (nv G) h) (I : TI H F nn) (hN : ∀ a, a < nn → ∃ j : Nat, L[j]? = some (nC G F a)) (hp : Cl p) (hq : Cl q) (hs : (ppath p).length ≤ 1048577) (hs' : (ppath q).length ≤ 1048577)
    (hw : (p = [] ∧ e = 2) ∨ (p ≠ [] ∧ q = p ∧ e = 0) ∨ (p ≠ [] ∧ q ≠ p ∧ p <+: q ∧ e = 9) ∨ (p ≠ [] ∧ q ≠ p ∧ ¬ p <+: q ∧ e ≠ 0 ∧ Fr H F q e)) :
    Calls Tryd.prog 20 #[.map (some g), .string (P p), .string (P q)] w (Ret w (.int .i64 e)) := by
  rcases hw with ⟨rfl, rfl⟩ | ⟨h0, rfl, rfl⟩ | ⟨h0, h1, h2, rfl⟩ | ⟨h0, h1, h2, h3, hf⟩
  · have z1 := P_root
    clear hS hi T I hN hp hq hs hs'
    go_enter Tryd.func20, Tryd.ntmps20
    go_wp2
    go_ret
    exact Ret.mk rfl (Below.refl _ _)
  · have z1 := P_notroot hp h0
    have z2 : ((P q).toList == (P q).toList) = true := by simp
    clear hS hi T I hN hp hq hs hs' h0
    go_enter Tryd.func20, Tryd.ntmps20
    go_wp2
    go_ret
    exact Ret.mk rfl (Below.refl _ _)
  · have z1 := P_notroot hp h0
    have z2 := P_ne hp hq h1
    have c1 := Lib.hid (within_P hp hq hs hs' true (by simp [h2]) w)
    clear hS hi T I hN hp hq hs hs' h0 h1 h2
    go_enter Tryd.func20, Tryd.ntmps20
    go_wp2_with fail
    refine c1.out.mono ?_; rintro en w1 ⟨rfl, hB⟩
    have HB := Lib.hid hB
    clear hB
    go_wp2
    go_ret
    exact Ret.mk rfl HB.out
  · have z1 := P_notroot hp h0
    have z2 := P_ne hp hq h1
    have c1 := Lib.hid (within_P hp hq hs hs' false (by simp [h2]) w)
    have c2 := Lib.hid (fun (W : World) (hB : Below w.heap.size w W) => fresh_any w0 W L i g n h G F nn H q e (hS.later hB) hi T I hN hf hq hs')
    have z3 : (e != 0) = true := by simpa using h3
    clear hS hi T I hN hp hq hs hs' h0 h1 h2 h3 hf
    go_enter Tryd.func20, Tryd.ntmps20
    go_wp2_with fail
    refine c1.out.mono ?_; rintro en w1 ⟨rfl, hB⟩
    have HB := Lib.hid hB
    clear hB
    go_wp2_with fail
    refine (c2.out w1 HB.out).mono ?_; rintro en w2 ⟨rfl, hB2⟩
    have HB2 := Lib.hid (HB.out.trans (hB2.mono HB.out.size))
    clear hB2
    go_wp2
    go_ret
    exact Ret.mk rfl HB2.out
end Tr
end Go.Proofs.YtgidkaidljiddaaDoor
