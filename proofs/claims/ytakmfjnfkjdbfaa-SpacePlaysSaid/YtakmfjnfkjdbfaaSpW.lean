/-
  Walk of space.Right. Conditions: none.
-/
import Derived.Test.YtakmfjnfkjdbfaaSpM2
import Derived.Test.YtakmfjnfkjdbfaaSlices
namespace Go.Proofs.Ytakmfjnfkjdbfaa
open Go.RowKit
set_option linter.unusedVariables false
namespace Sp

structure G where
  (at_ many : Int)
def G.cells (x : G) : List Value := [.int .i64 x.at_, .int .i64 x.many]
theorem G.len : ∀ x : G, x.cells.length = 2 := fun _ => rfl
theorem G.facts {w wr : World} {b off Bd k : Nat} {l : List G} {x : G} (hb : b < Bd) (hB : Below Bd w wr) (hc : ∀ (i j : Nat) (x : G) (u : Value), l[i]? = some x → x.cells[j]? = some u → w.cell? ⟨b, off + (i * 2 + j), none⟩ = some u)
    (hx : l[k]? = some x) : wr.cell? ⟨b, off + k * 2, none⟩ = some (.int .i64 x.at_) ∧ wr.cell? ⟨b, off + k * 2 + 1, none⟩ = some (.int .i64 x.many) :=
  ⟨(hB.cell hb).trans (hc k 0 x _ hx rfl), (hB.cell hb).trans (hc k 1 x _ hx rfl)⟩
theorem drop_at {α : Type} {l : List α} {k : Nat} {x : α} (h : l[k]? = some x) : l.drop k = x :: l.drop (k + 1) := by
  obtain ⟨h1, h2⟩ := List.getElem?_eq_some_iff.1 h
  rw [List.drop_eq_getElem_cons h1, h2]
def okG (size last : Int) : List G → Bool
  | [] => true
  | g :: t => decide (last < g.at_) && decide (1 ≤ g.many) && decide (g.at_ + g.many ≤ size) && okG size (g.at_ + g.many) t
def G.of (n : N) : G := ⟨n.a, n.m⟩
theorem okG_ok {S : Nat} : ∀ (l : List G) (lo : Nat), okG (S : Int) ((lo : Int) - 1) l = true → ∃ ln : List N, l = ln.map G.of ∧ Ok S lo ln
  | [], lo, _ => ⟨[], rfl, trivial⟩
  | g :: t, lo, h => by
    simp only [okG, Bool.and_eq_true, decide_eq_true_eq] at h
    obtain ⟨⟨⟨h1, h2⟩, h3⟩, h4⟩ := h
    obtain ⟨a, ha⟩ := Int.eq_ofNat_of_zero_le (show 0 ≤ g.at_ by omega)
    obtain ⟨m, hm⟩ := Int.eq_ofNat_of_zero_le (show 0 ≤ g.many by omega)
    obtain ⟨ln, h5, h6⟩ := okG_ok t (a + m + 1) (by rw [show ((a + m + 1 : Nat) : Int) - 1 = g.at_ + g.many by omega]; exact h4)
    refine ⟨⟨a, m⟩ :: ln, ?_, by simp; omega, by simp; omega, by simp; omega, h6⟩
    rw [List.map_cons, h5]
    congr 1
    cases g
    simp at ha hm
    subst ha hm
    rfl
theorem ok_okG {S : Nat} : ∀ (ln : List N) (lo : Nat), Ok S lo ln → okG (S : Int) ((lo : Int) - 1) (ln.map G.of) = true
  | [], lo, _ => rfl
  | g :: t, lo, h => by
    obtain ⟨h1, h2, h3, h4⟩ := h
    have ih := ok_okG t (g.a + g.m + 1) h4
    rw [show ((g.a + g.m + 1 : Nat) : Int) - 1 = (G.of g).at_ + (G.of g).many by simp [G.of]] at ih
    have e1 : (lo : Int) - 1 < (G.of g).at_ := by show (lo : Int) - 1 < (g.a : Int); omega
    have e2 : 1 ≤ (G.of g).many := by show (1 : Int) ≤ (g.m : Int); omega
    have e3 : (G.of g).at_ + (G.of g).many ≤ (S : Int) := by show (g.a : Int) + (g.m : Int) ≤ (S : Int); omega
    rw [List.map_cons, okG, ih, decide_eq_true e1, decide_eq_true e2, decide_eq_true e3]
    rfl

set_option maxRecDepth 100000 in
set_option maxHeartbeats 3200000 in
theorem right_is (A : Option Addr) (n c : Nat) (l : List G) (b0 : Bool) (w : World) (hr : Rd w w.heap.size 2 A n (l.flatMap G.cells)) (hl : l.length = n) (hn : n ≤ 9223372036854775807) (hb : okG 4096 (-1) l = b0) :
    Calls Try.prog 23 #[.slice A n c] w (Ret w (.bool b0)) := by
  have HR := Lib.hid hr
  have HL := Lib.hid hl
  have HB0 := Lib.hid hb
  clear hr hl hb
  go_enter Try.func23, Try.ntmps23
  go_wp2
  go_loopg [3, 8] n (fun g v3 i wr => ∃ (k : Nat) (last : Int), k ≤ n ∧ g = n - k ∧ i = .int .i64 k ∧ v3 = .int .i64 last ∧ -1 ≤ last ∧ last ≤ 4096 ∧ Hid (okG 4096 (-1) l = okG 4096 last (l.drop k)) ∧ Sep w wr [])
  case atStart => exact ⟨0, -1, Nat.zero_le _, rfl, rfl, rfl, by omega, by omega, Lib.hid rfl, Sep.nil_ w⟩
  case round =>
    obtain ⟨k, last, hk, rfl, rfl, rfl, hl0, hl1, HK, hs⟩ := hrel
    have HS := Lib.hid hs
    clear hs
    by_cases hlt : k < n
    · obtain ⟨b, off, rfl, hb, hc⟩ := HR.out.at_ G.len (by omega)
      obtain ⟨x, hx⟩ : ∃ x, l[k]? = some x := ⟨_, List.getElem?_eq_getElem (by rw [HL.out]; exact hlt)⟩
      obtain ⟨d0, d1⟩ := G.facts hb HS.out.below hc hx
      have i0 : (0 : Int) ≤ (k : Int) := by omega
      have i1 : (k : Int) < (n : Int) := by omega
      have HO : Hid (okG 4096 (-1) l = (decide (last < x.at_) && decide (1 ≤ x.many) && decide (x.at_ + x.many ≤ 4096) && okG 4096 (x.at_ + x.many) (l.drop (k + 1)))) := Lib.hid (by rw [HK.out, drop_at hx]; rfl)
      have HS1 := Lib.hid (HS.out.new 50 x.cells)
      clear hc hx HK
      obtain ⟨xa, xm⟩ := x
      simp only [G.cells] at d0 d1 HO HS1
      by_cases c1 : xa ≤ last
      · have HE : Hid (false = b0) := Lib.hid (by
          rw [← HB0.out, HO.out]
          rw [show decide (last < xa) = false by simp; omega]; simp)
        clear HO
        go_wp2
        go_ret
        exact Ret.mk (bool_eq HE.out) HS1.out.below
      by_cases c2 : xm < 1
      · have c0 : ¬ xa < 0 := by omega
        have HE : Hid (false = b0) := Lib.hid (by
          rw [← HB0.out, HO.out]
          rw [show decide (1 ≤ xm) = false by simp; omega]; simp)
        clear HO
        go_wp2
        go_ret
        exact Ret.mk (bool_eq HE.out) HS1.out.below
      by_cases c3 : 4096 < xa
      · have c0 : ¬ xa < 0 := by omega
        have HE : Hid (false = b0) := Lib.hid (by
          rw [← HB0.out, HO.out]
          rw [show decide (xa + xm ≤ 4096) = false by simp; omega]; simp)
        clear HO
        go_wp2
        go_ret
        exact Ret.mk (bool_eq HE.out) HS1.out.below
      by_cases c4 : 4096 < xm
      · have c0 : ¬ xa < 0 := by omega
        have HE : Hid (false = b0) := Lib.hid (by
          rw [← HB0.out, HO.out]
          rw [show decide (xa + xm ≤ 4096) = false by simp; omega]; simp)
        clear HO
        go_wp2
        go_ret
        exact Ret.mk (bool_eq HE.out) HS1.out.below
      by_cases c5 : 4096 < xa + xm
      · have c0 : ¬ xa < 0 := by omega
        have HE : Hid (false = b0) := Lib.hid (by
          rw [← HB0.out, HO.out]
          rw [show decide (xa + xm ≤ 4096) = false by simp; omega]; simp)
        clear HO
        go_wp2
        go_ret
        exact Ret.mk (bool_eq HE.out) HS1.out.below
      have c0 : ¬ xa < 0 := by omega
      have HN : Hid (okG 4096 (-1) l = okG 4096 (xa + xm) (l.drop (k + 1))) := Lib.hid (by
        rw [HO.out, show decide (last < xa) = true by simp; omega, show decide (1 ≤ xm) = true by simp; omega, show decide (xa + xm ≤ 4096) = true by simp; omega]
        simp)
      clear HO
      go_wp2
      go_roundg (n - (k + 1))
      case measure => omega
      case rel => exact ⟨k + 1, xa + xm, by omega, rfl, by go_num, rfl, by omega, by omega, HN, HS1.out.pick [] (by decide) (by simp)⟩
    · have HE : Hid (true = b0) := Lib.hid (by
        rw [← HB0.out, HK.out, List.drop_of_length_le (by rw [HL.out]; omega)]
        rfl)
      go_wp2
      go_ret
      exact Ret.mk (bool_eq HE.out) HS.out.below
end Sp
end Go.Proofs.Ytakmfjnfkjdbfaa
