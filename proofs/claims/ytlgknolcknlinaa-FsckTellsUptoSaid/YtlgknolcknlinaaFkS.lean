/-
  Walks of the reference's SameFaults and of fsck.Clean. Conditions: none beyond each theorem's own premises.
-/
import Derived.Test.YtlgknolcknlinaaFkW
namespace Go.Proofs.Ytlgknolcknlinaa
open Go.RowKit
open Fs (same_any)
set_option linter.unusedVariables false
namespace Fk

def Fits (a : Fa) : Prop := a.twice.length ≤ 1099511627776 ∧ a.lost.length ≤ 1099511627776 ∧ a.unm.length ≤ 1099511627776 ∧ a.none_.length ≤ 1099511627776
def emp (a : Fa) : Bool := ((decide (a.twice.length = 0) && decide (a.lost.length = 0)) && decide (a.unm.length = 0)) && decide (a.none_.length = 0)
def bx (w : World) (a b c d : Value) : World := w.alloc (.cells #[a, b, c, d] 25)
theorem nodup_sub : ∀ (l F : List Int), l.Nodup → (∀ x ∈ l, x ∈ F) → l.length ≤ F.length
  | [], F, _, _ => Nat.zero_le _
  | x :: t, F, hn, hs => by
    have hx : x ∈ F := hs x (by simp)
    have hn2 := List.nodup_cons.1 hn
    have h1 := nodup_sub t (F.erase x) hn2.2 (fun y hy => (List.mem_erase_of_ne (fun (e : y = x) => hn2.1 (by rw [← e]; exact hy))).2 (hs y (by simp [hy])))
    have h2 := List.length_erase_of_mem hx
    have h3 := List.length_pos_of_mem hx
    simp only [List.length_cons]
    omega
theorem FOk.fits {z : Nat} {F ms : List Int} {a : Fa} (h : FOk z F ms a) (hz : z ≤ 4096) (hF : F.length ≤ 1099511627776) : Fits a := by
  obtain ⟨h1, h2, h3, h4, h5⟩ := h
  refine ⟨?_, ?_, ?_, Nat.le_trans (nodup_sub _ F (h4.imp (fun h e => by omega)) (fun x hx => ((h5 x).1 hx).1)) hF⟩
  · rw [h1]; exact Nat.le_trans (mk_len _ _) (by omega)
  · rw [h2]; exact Nat.le_trans (mk_len _ _) (by omega)
  · rw [h3]; exact Nat.le_trans (mk_len _ _) (by omega)

theorem frd_same {w : World} {A A' : Option Addr} {n n' c c' : Nat} {l : List Int} (h : FRd w A n l) (h' : FRd w A' n' l) (hl : l.length ≤ 1099511627776) :
    n' = n ∧ ∀ W : World, Below w.heap.size w W → Calls Try.prog 12 #[.slice A n c, .slice A' n' c'] W (Ret W (.bool true)) := by
  have e : n' = n := by rw [← h.2, ← h'.2]
  subst e
  exact ⟨rfl, fun W hW => same_any A A' n' c c' l W (h.1.later hW) (h'.1.later hW) h.2 (by rw [← h.2]; omega)⟩
set_option maxHeartbeats 400000 in
theorem usame_nil (A : Option Addr) (n c : Nat) (w : World) (hn : n ≤ 9223372036854775807) :
    Calls Try.prog 12 #[.slice A n c, .slice none 0 0] w (Ret w (.bool (decide (n = 0)))) := by
  by_cases h0 : n = 0
  · subst h0
    exact same_any A none 0 c 0 [] w ⟨rfl, fun h => absurd h (Nat.lt_irrefl 0)⟩ ⟨rfl, fun h => absurd h (Nat.lt_irrefl 0)⟩ rfl (by omega)
  · rw [decide_eq_false h0]
    have hne : ¬ (n : Int) = 0 := by omega
    go_enter Try.func12, Try.ntmps12
    go_wp2
    go_ret
    exact Ret.mk rfl (by repeat (first | with_reducible refine Below.setCell ?_ (by first | (simp; done) | (simp; omega)) _ | with_reducible assumption | with_reducible exact Below.refl _ _ | with_reducible refine Below.alloc ?_ (by first | omega | (simp; done) | (simp; omega)) _ | with_reducible refine Below.drew ?_))

set_option maxRecDepth 100000 in
set_option maxHeartbeats 1600000 in
theorem samef_gen (A0 : Option Addr) (n0 c0 : Nat) (B0 : Option Addr) (k0 d0 : Nat) (b0 : Bool) (A1 : Option Addr) (n1 c1 : Nat) (B1 : Option Addr) (k1 d1 : Nat) (b1 : Bool) (A2 : Option Addr) (n2 c2 : Nat) (B2 : Option Addr) (k2 d2 : Nat) (b2 : Bool) (A3 : Option Addr) (n3 c3 : Nat) (B3 : Option Addr) (k3 d3 : Nat) (b3 : Bool) (w : World)
    (h0 : ∀ W : World, Below w.heap.size w W → Calls Try.prog 12 #[.slice A0 n0 c0, .slice B0 k0 d0] W (Ret W (.bool b0)))
    (h1 : ∀ W : World, Below w.heap.size w W → Calls Try.prog 12 #[.slice A1 n1 c1, .slice B1 k1 d1] W (Ret W (.bool b1)))
    (h2 : ∀ W : World, Below w.heap.size w W → Calls Try.prog 12 #[.slice A2 n2 c2, .slice B2 k2 d2] W (Ret W (.bool b2)))
    (h3 : ∀ W : World, Below w.heap.size w W → Calls Try.prog 12 #[.slice A3 n3 c3, .slice B3 k3 d3] W (Ret W (.bool b3))) :
    Calls Try.prog 7 #[.agg #[.slice A0 n0 c0, .slice A1 n1 c1, .slice A2 n2 c2, .slice A3 n3 c3], .agg #[.slice B0 k0 d0, .slice B1 k1 d1, .slice B2 k2 d2, .slice B3 k3 d3]] w (Ret w (.bool (((b0 && b1) && b2) && b3))) := by
  have HS : Hid (Sep w ((w.alloc (.cells #[.slice A0 n0 c0, .slice A1 n1 c1, .slice A2 n2 c2, .slice A3 n3 c3] 25)).alloc (.cells #[.slice B0 k0 d0, .slice B1 k1 d1, .slice B2 k2 d2, .slice B3 k3 d3] 25)) [.cells w.heap.size 25 [.slice A0 n0 c0, .slice A1 n1 c1, .slice A2 n2 c2, .slice A3 n3 c3], .cells (w.heap.size + 1) 25 [.slice B0 k0 d0, .slice B1 k1 d1, .slice B2 k2 d2, .slice B3 k3 d3]]) := Lib.hid (by
    have hsz1 : (w.alloc (.cells #[.slice A0 n0 c0, .slice A1 n1 c1, .slice A2 n2 c2, .slice A3 n3 c3] 25)).heap.size = w.heap.size + 1 := by simp
    have h := ((Sep.nil_ w).new 25 [.slice A0 n0 c0, .slice A1 n1 c1, .slice A2 n2 c2, .slice A3 n3 c3]).new 25 [.slice B0 k0 d0, .slice B1 k1 d1, .slice B2 k2 d2, .slice B3 k3 d3]
    rw [hsz1] at h
    exact h)
  have H0 := Lib.hid h0
  have H1 := Lib.hid h1
  have H2 := Lib.hid h2
  have H3 := Lib.hid h3
  clear h0 h1 h2 h3
  go_enter Try.func7, Try.ntmps7
  go_upto_region 1 with (fail)
  generalize (w.alloc (.cells #[.slice A0 n0 c0, .slice A1 n1 c1, .slice A2 n2 c2, .slice A3 n3 c3] 25)).alloc (.cells #[.slice B0 k0 d0, .slice B1 k1 d1, .slice B2 k2 d2, .slice B3 k3 d3] 25) = u0 at HS ⊢
  generalize w.heap.size + 1 = gb at HS ⊢
  generalize w.heap.size = ga at HS ⊢
  have f0 := HS.out.cell 0 rfl (k := 0) rfl
  have f1 := HS.out.cell 1 rfl (k := 0) rfl
  go_wp2_with fail
  refine (H0.out u0 HS.out.below).mono ?_; rintro en u1 ⟨rfl, hb⟩
  have HS2 := Lib.hid (HS.out.later hb)
  clear HS f0 f1 hb H0
  have HS := HS2
  clear HS2
  cases b0 with
  | false =>
    go_wp2
    go_ret
    exact Ret.mk (bool_eq (by simp)) HS.out.below
  | true =>
    have f0 := HS.out.cell 0 rfl (k := 1) rfl
    have f1 := HS.out.cell 1 rfl (k := 1) rfl
    go_wp2_with fail
    refine (H1.out u1 HS.out.below).mono ?_; rintro en u2 ⟨rfl, hb⟩
    have HS2 := Lib.hid (HS.out.later hb)
    clear HS f0 f1 hb H1
    have HS := HS2
    clear HS2
    cases b1 with
    | false =>
      go_wp2
      go_ret
      exact Ret.mk (bool_eq (by simp)) HS.out.below
    | true =>
      have f0 := HS.out.cell 0 rfl (k := 2) rfl
      have f1 := HS.out.cell 1 rfl (k := 2) rfl
      go_wp2_with fail
      refine (H2.out u2 HS.out.below).mono ?_; rintro en u3 ⟨rfl, hb⟩
      have HS2 := Lib.hid (HS.out.later hb)
      clear HS f0 f1 hb H2
      have HS := HS2
      clear HS2
      cases b2 with
      | false =>
        go_wp2
        go_ret
        exact Ret.mk (bool_eq (by simp)) HS.out.below
      | true =>
        have f0 := HS.out.cell 0 rfl (k := 3) rfl
        have f1 := HS.out.cell 1 rfl (k := 3) rfl
        go_wp2_with fail
        refine (H3.out u3 HS.out.below).mono ?_; rintro en u4 ⟨rfl, hb⟩
        have HS2 := Lib.hid (HS.out.later hb)
        clear HS f0 f1 hb H3
        have HS := HS2
        clear HS2
        go_wp2
        go_ret
        exact Ret.mk (bool_eq (by simp)) HS.out.below

set_option maxRecDepth 100000 in
set_option maxHeartbeats 800000 in
theorem clean_gen (A0 : Option Addr) (n0 c0 : Nat) (A1 : Option Addr) (n1 c1 : Nat) (A2 : Option Addr) (n2 c2 : Nat) (A3 : Option Addr) (n3 c3 : Nat) (w : World) (m0 : n0 ≤ 1099511627776) (m1 : n1 ≤ 1099511627776) (m2 : n2 ≤ 1099511627776) (m3 : n3 ≤ 1099511627776) :
    Calls Try.prog 9 #[.agg #[.slice A0 n0 c0, .slice A1 n1 c1, .slice A2 n2 c2, .slice A3 n3 c3]] w (Ret w (.bool (((decide (n0 = 0) && decide (n1 = 0)) && decide (n2 = 0)) && decide (n3 = 0)))) := by
  have HS : Hid (Sep w (w.alloc (.cells #[.slice A0 n0 c0, .slice A1 n1 c1, .slice A2 n2 c2, .slice A3 n3 c3] 25)) [.cells w.heap.size 25 [.slice A0 n0 c0, .slice A1 n1 c1, .slice A2 n2 c2, .slice A3 n3 c3]]) := Lib.hid ((Sep.nil_ w).new 25 [.slice A0 n0 c0, .slice A1 n1 c1, .slice A2 n2 c2, .slice A3 n3 c3])
  go_enter Try.func9, Try.ntmps9
  go_upto_region 1 with (fail)
  generalize w.alloc (.cells #[.slice A0 n0 c0, .slice A1 n1 c1, .slice A2 n2 c2, .slice A3 n3 c3] 25) = u0 at HS ⊢
  generalize w.heap.size = ga at HS ⊢
  have f0 := HS.out.cell 0 rfl (k := 0) rfl
  have f1 := HS.out.cell 0 rfl (k := 1) rfl
  have f2 := HS.out.cell 0 rfl (k := 2) rfl
  have f3 := HS.out.cell 0 rfl (k := 3) rfl
  go_wp2
  go_ret
  refine Ret.mk (bool_eq ?_) HS.out.below
  rw [Bool.eq_iff_iff]
  simp
  omega
end Fk
end Go.Proofs.Ytlgknolcknlinaa
