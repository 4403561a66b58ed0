/-
  Walks of mount.Mount, of its closure and of slices.IndexFunc, and of the reference's LMount.
-/
import Derived.Test.YtljdfkejhgaciaaMountW
import Derived.Shelf.Abstract
namespace Go.Proofs.Ytljdfkejhgaciaa
open Go.RowKit Go.Shelf
namespace Mount

def hit (f : Int) (p : Pg) : Bool := p.whole && decide (p.seq = f)
def idxP (f : Int) : List Pg → Nat → Int
  | [], _ => -1
  | p :: ps, k => if hit f p then k else idxP f ps (k + 1)

set_option maxHeartbeats 800000 in
theorem pred_any (p : Pg) (fb : Nat) (f : Int) (w : World) (hc : w.cell? ⟨fb, 0, none⟩ = some (.int .i64 f)) :
    Calls Try.prog 35 #[p.val, .pointer (some ⟨fb, 0, none⟩)] w (Ret w (.bool (hit f p))) := by
  obtain ⟨s, n, d, wh⟩ := p
  unfold Pg.val
  simp only
  have hlt := World.block_lt_of_cell? _ _ hc
  cases wh with
  | false =>
    go_enter Try.func35, Try.ntmps35
    go_wp2
    go_ret
    exact Ret.mk (bool_eq (by simp [hit])) (by repeat (first | with_reducible refine Below.setCell ?_ (by first | (simp; done) | (simp; omega)) _ | with_reducible assumption | with_reducible exact Below.refl _ _ | with_reducible refine Below.alloc ?_ (by first | omega | (simp; done) | (simp; omega)) _ | with_reducible refine Below.drew ?_))
  | true =>
    cases hs : decide (s = f) with
    | true =>
      have ht : (s == f) = true := by simpa using hs
      have HE : Hid (hit f ⟨s, n, d, true⟩ = true) := Lib.hid (by simp [hit]; simpa using hs)
      clear hs
      go_enter Try.func35, Try.ntmps35
      go_wp2
      go_ret
      exact Ret.mk (bool_eq HE.out.symm) (by repeat (first | with_reducible refine Below.setCell ?_ (by first | (simp; done) | (simp; omega)) _ | with_reducible assumption | with_reducible exact Below.refl _ _ | with_reducible refine Below.alloc ?_ (by first | omega | (simp; done) | (simp; omega)) _ | with_reducible refine Below.drew ?_))
    | false =>
      have ht : (s == f) = false := by simpa using hs
      have HE : Hid (hit f ⟨s, n, d, true⟩ = false) := Lib.hid (by simp [hit]; simpa using hs)
      clear hs
      go_enter Try.func35, Try.ntmps35
      go_wp2
      go_ret
      exact Ret.mk (bool_eq HE.out.symm) (by repeat (first | with_reducible refine Below.setCell ?_ (by first | (simp; done) | (simp; omega)) _ | with_reducible assumption | with_reducible exact Below.refl _ _ | with_reducible refine Below.alloc ?_ (by first | omega | (simp; done) | (simp; omega)) _ | with_reducible refine Below.drew ?_))
theorem pred_is (p : Pg) (fb : Nat) (f : Int) (b : Bool) (w : World) (hc : w.cell? ⟨fb, 0, none⟩ = some (.int .i64 f)) (h : hit f p = b) :
    Calls Try.prog 35 #[p.val, .pointer (some ⟨fb, 0, none⟩)] w (Ret w (.bool b)) := by subst h; exact pred_any p fb f w hc

set_option maxHeartbeats 800000 in
theorem index_any (A : Option Addr) (n c fb : Nat) (f : Int) (ps : List Pg) (w : World) (hr : Rd w w.heap.size 4 A n (ps.flatMap Pg.cells)) (hps : ps.length = n) (hn : n ≤ 9223372036854775807) (hc : w.cell? ⟨fb, 0, none⟩ = some (.int .i64 f)) :
    Calls Try.prog 34 #[.slice A n c, .func (.func 35) #[] #[.pointer (some ⟨fb, 0, none⟩)]] w (Ret w (.int .i64 (idxP f ps 0))) := by
  have HR := Lib.hid hr
  have HP := Lib.hid hps
  have hlt := World.block_lt_of_cell? _ _ hc
  have HC := Lib.hid hc
  have eg : ∀ args w, (callFunc 35 args).run Try.prog w = .ok (.enter 35 args) w := enters_of Try.func35 (by kernel_rfl) rfl
  clear hr hps hc
  go_enter Try.func34, Try.ntmps34
  go_wp2
  go_loopg [8] n (fun g i wr => ∃ (k : Nat), k ≤ n ∧ g = n - k ∧ i = .int .i64 k ∧ Hid (idxP f ps 0 = idxP f (ps.drop k) k) ∧ Below w.heap.size w wr)
  case atStart => exact ⟨0, Nat.zero_le _, rfl, rfl, Lib.hid (by simp), Below.refl _ _⟩
  case round =>
    obtain ⟨k, hk, rfl, rfl, HF, hB⟩ := hrel
    by_cases hlk : k < n
    · obtain ⟨b, off, rfl, hb, hc⟩ := Rd_pages HR.out (by omega)
      obtain ⟨x, hx⟩ : ∃ x, ps[k]? = some x := ⟨_, List.getElem?_eq_getElem (by rw [HP.out]; exact hlk)⟩
      obtain ⟨q0, q1, q2, q3⟩ := Pg.facts hb hB hc hx
      have HX := Lib.hid (drop_at hx)
      have hcr := (hB.cell hlt).trans HC.out
      clear hc hx
      cases hh : hit f x with
      | true =>
        have HE : Hid (idxP f ps 0 = k) := Lib.hid (by rw [HF.out, HX.out, idxP, if_pos hh])
        have cS := Lib.hid (pred_is x fb f true wr hcr hh)
        obtain ⟨xs, xn, xd, xw⟩ := x
        simp only at q0 q1 q2 q3
        clear hh HF hcr
        go_wp2_with (go_at_fn 35; refine cS.out.mono ?_; rintro e w1 ⟨rfl, hb1⟩)
        go_ret
        exact Ret.mk (int_eq HE.out.symm) (hB.trans (hb1.mono hB.size))
      | false =>
        have HE : Hid (idxP f ps 0 = idxP f (ps.drop (k + 1)) (k + 1)) := Lib.hid (by rw [HF.out, HX.out, idxP, hh, if_neg (by simp)])
        have cS := Lib.hid (pred_is x fb f false wr hcr hh)
        obtain ⟨xs, xn, xd, xw⟩ := x
        simp only at q0 q1 q2 q3
        clear hh HF hcr
        go_wp2_with (go_at_fn 35; refine cS.out.mono ?_; rintro e w1 ⟨rfl, hb1⟩)
        go_roundg (n - (k + 1))
        case measure => omega
        case rel => exact ⟨k + 1, by omega, rfl, by go_num, HE, hB.trans (hb1.mono hB.size)⟩
    · have HE : Hid (idxP f ps 0 = -1) := Lib.hid (by rw [HF.out, List.drop_eq_nil_of_le (by rw [HP.out]; omega), idxP])
      go_wp2
      go_ret
      exact Ret.mk (int_eq HE.out.symm) hB
end Mount
end Go.Proofs.Ytljdfkejhgaciaa
