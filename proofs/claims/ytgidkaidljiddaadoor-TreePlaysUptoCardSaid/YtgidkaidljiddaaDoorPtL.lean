/-
  Paths: walks of path.Within and Both, and of the law PathMeets. Conditions: none beyond each theorem's own premises.
-/
import Derived.Test.YtgidkaidljiddaaDoorPtJ
namespace Go.Proofs.YtgidkaidljiddaaDoor
open Go.RowKit Go.Shelf
set_option linter.unusedVariables false
namespace Pt

theorem take_rd {w : World} {B n k : Nat} {A : Option Addr} {l : List By} (h : Rd w B 1 A n (l.flatMap sc)) (hk : k ≤ n) : Rd w B 1 A k ((l.take k).flatMap sc) := by
  have h2 := rd_upto h hk
  rwa [flat_take sc_len] at h2

set_option maxRecDepth 100000 in
theorem within_any (s top : By) (hs : s.length ≤ 1048577) (ht : top.length ≤ 1048577) (w : World) :
    Calls Tryd.prog 30 #[.string (bs s), .string (bs top)] w (Ret w (.bool ((cmn (parts s) (parts top) : Int) == ((parts top).length : Int)))) := by
  have c1 := Lib.hid (parts_any top (by omega) w)
  have c2 := Lib.hid (fun W => parts_any s (by omega) W)
  have hs1 := parts_sum s
  have hs2 := parts_sum top
  obtain ⟨x, hx⟩ : ∃ x, parts s = x := ⟨_, rfl⟩
  obtain ⟨y, hy⟩ : ∃ y, parts top = y := ⟨_, rfl⟩
  rw [hx] at c2 hs1 ⊢
  rw [hy] at c1 hs2 ⊢
  clear hx hy
  have cC := Lib.hid (fun A A' c c' (W : World) (h : Rd W W.heap.size 1 A x.length (x.flatMap sc)) (h' : Rd W W.heap.size 1 A' y.length (y.flatMap sc)) => common_any A A' x.length y.length c c' x y W h h' rfl rfl (by omega) (by omega))
  clear hs1 hs2
  generalize x.length = n at c2 cC
  generalize y.length = n' at c1 cC ⊢
  go_enter Tryd.func30, Tryd.ntmps30
  go_wp2_with fail
  refine c1.out.mono ?_; rintro en w1 ⟨A1, q1, _, rfl, hs1⟩
  have H1 := Lib.hid hs1
  clear hs1 c1
  go_wp2_with fail
  refine (c2.out w1).mono ?_; rintro en w2 ⟨A2, q2, _, rfl, hs2⟩
  have H2 := Lib.hid (H1.out.join hs2)
  clear hs2 c2 H1
  have c3 := Lib.hid (cC.out A2 A1 q2 q1 w2 (H2.out.rd 1 rfl) (H2.out.rd 0 rfl))
  clear cC
  go_wp2_with fail
  refine c3.out.mono ?_; rintro en w3 ⟨rfl, hb3⟩
  have HB := Lib.hid (H2.out.below.trans (hb3.mono H2.out.below.size))
  clear hb3 c3 H2
  go_wp2
  go_ret
  exact Ret.mk rfl HB.out

end Pt
end Go.Proofs.YtgidkaidljiddaaDoor
