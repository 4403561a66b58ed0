/-
  Walks of the reference's SameFaults and of fsck.Clean. Conditions: none beyond each theorem's own premises.
-/
import Derived.Test.YtjopiepfjbnkbaaGreatDoorFkW
namespace Go.Proofs.YtjopiepfjbnkbaaGreatDoor
open Go.RowKit
set_option linter.unusedVariables false
namespace Fk

def Fits (a : Fa) : Prop := a.twice.length ≤ 1099511627776 ∧ a.lost.length ≤ 1099511627776 ∧ a.unm.length ≤ 1099511627776 ∧ a.none_.length ≤ 1099511627776
def emp (a : Fa) : Bool := ((decide (a.twice.length = 0) && decide (a.lost.length = 0)) && decide (a.unm.length = 0)) && decide (a.none_.length = 0)
def bx (w : World) (a b c d : Value) : World := w.alloc (.cells #[a, b, c, d] 69)
theorem nodup_sub : ∀ (l F : List Int), l.Nodup → (∀ x ∈ l, x ∈ F) → l.length ≤ F.length
  | [], F, _, _ => Nat.zero_le _
  | x :: t, F, hn, hs => by
    have hx : x ∈ F := hs x (by simp)
    have hn2 := List.nodup_cons.1 hn
    have h1 := nodup_sub t (F.erase x) hn2.2 (fun y hy => (List.mem_erase_of_ne (fun (e : y = x) => hn2.1 (by rw [← e]; exact hy))).2 (hs y (by simp [hy])))
    have h2 := List.length_erase_of_mem hx
    have h3 := List.length_pos_of_mem hx
    simp only [List.length_cons]
    omega
theorem FOk.fits {z : Nat} {F ms : List Int} {a : Fa} (h : FOk z F ms a) (hz : z ≤ 4096) (hF : F.length ≤ 1099511627776) : Fits a := by
  obtain ⟨h1, h2, h3, h4, h5⟩ := h
  refine ⟨?_, ?_, ?_, Nat.le_trans (nodup_sub _ F (h4.imp (fun h e => by omega)) (fun x hx => ((h5 x).1 hx).1)) hF⟩
  · rw [h1]; exact Nat.le_trans (mk_len _ _) (by omega)
  · rw [h2]; exact Nat.le_trans (mk_len _ _) (by omega)
  · rw [h3]; exact Nat.le_trans (mk_len _ _) (by omega)

set_option maxRecDepth 100000 in
set_option maxHeartbeats 800000 in
theorem clean_gen (A0 : Option Addr) (n0 c0 : Nat) (A1 : Option Addr) (n1 c1 : Nat) (A2 : Option Addr) (n2 c2 : Nat) (A3 : Option Addr) (n3 c3 : Nat) (w : World) (m0 : n0 ≤ 1099511627776) (m1 : n1 ≤ 1099511627776) (m2 : n2 ≤ 1099511627776) (m3 : n3 ≤ 1099511627776) :
    Calls Tryz.prog 15 #[.agg #[.slice A0 n0 c0, .slice A1 n1 c1, .slice A2 n2 c2, .slice A3 n3 c3]] w (Ret w (.bool (((decide (n0 = 0) && decide (n1 = 0)) && decide (n2 = 0)) && decide (n3 = 0)))) := by
  have HS : Hid (Sep w (w.alloc (.cells #[.slice A0 n0 c0, .slice A1 n1 c1, .slice A2 n2 c2, .slice A3 n3 c3] 69)) [.cells w.heap.size 69 [.slice A0 n0 c0, .slice A1 n1 c1, .slice A2 n2 c2, .slice A3 n3 c3]]) := Lib.hid ((Sep.nil_ w).new 69 [.slice A0 n0 c0, .slice A1 n1 c1, .slice A2 n2 c2, .slice A3 n3 c3])
  go_enter Tryz.func15, Tryz.ntmps15
  go_upto_region 1 with (fail)
  generalize w.alloc (.cells #[.slice A0 n0 c0, .slice A1 n1 c1, .slice A2 n2 c2, .slice A3 n3 c3] 69) = u0 at HS ⊢
  generalize w.heap.size = ga at HS ⊢
  have f0 := HS.out.cell 0 rfl (k := 0) rfl
  have f1 := HS.out.cell 0 rfl (k := 1) rfl
  have f2 := HS.out.cell 0 rfl (k := 2) rfl
  have f3 := HS.out.cell 0 rfl (k := 3) rfl
  go_wp2
  go_ret
  refine Ret.mk (bool_eq ?_) HS.out.below
  rw [Bool.eq_iff_iff]
  simp
  omega
end Fk
end Go.Proofs.YtjopiepfjbnkbaaGreatDoor
