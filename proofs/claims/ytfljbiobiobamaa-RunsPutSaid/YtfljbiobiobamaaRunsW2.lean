/-
  Walks of package runs, second part: the reference's MRight and MFind, runs.Find.
-/
import Derived.Test.YtfljbiobiobamaaRunsW
import Derived.IntWalk
namespace Go.Proofs.Ytfljbiobiobamaa
open Go.RowKit
namespace Runs

def badB (r : R) (e d : Int) : Bool := decide (r.at_ < 0) || decide (r.disk < 0) || decide (r.many < 1) || decide (1099511627776 < r.at_) || decide (1099511627776 < r.disk) || decide (1099511627776 < r.many) || decide (r.at_ < e) || (decide (r.at_ = e) && decide (r.disk = d))
def mr (e d : Int) : List R → Bool
  | [] => true
  | r :: t => if badB r e d then false else mr (r.at_ + r.many) (r.disk + r.many) t

theorem drop_at {α : Type} {l : List α} {k : Nat} {x : α} (h : l[k]? = some x) : l.drop k = x :: l.drop (k + 1) := by
  obtain ⟨hk, rfl⟩ := List.getElem?_eq_some_iff.1 h
  exact List.drop_eq_getElem_cons hk

def mrTo (l : List R) (k : Nat) (e d : Int) : Prop := mr (-1) 0 l = mr e d (l.drop k)

set_option maxHeartbeats 800000 in
theorem mright_any (A : Option Addr) (n c : Nat) (l : List R) (w : World) (hr : Rd w w.heap.size 3 A n (l.flatMap R.cells)) (hl : l.length = n) (hn : n ≤ 9223372036854775807) :
    Calls Try.prog 17 #[.slice A n c] w (Ret w (.bool (mr (-1) 0 l))) := by
  have HR := Lib.hid hr
  have HL := Lib.hid hl
  clear hr hl
  go_enter Try.func17, Try.ntmps17
  go_wp2
  go_loopg [3, 4, 9] n (fun g e d i wr => ∃ (k : Nat) (ez dz : Int), k ≤ n ∧ g = n - k ∧ i = .int .i64 k ∧ e = .int .i64 ez ∧ d = .int .i64 dz ∧ mrTo l k ez dz ∧ Below w.heap.size w wr)
  case atStart => exact ⟨0, -1, 0, Nat.zero_le _, rfl, rfl, rfl, rfl, rfl, Below.refl _ _⟩
  case round =>
    obtain ⟨k, ez, dz, hk, rfl, rfl, rfl, rfl, hM, hB⟩ := hrel
    have HM := Lib.hid hM
    clear hM
    by_cases hlt : k < n
    · have hn0 : 0 < n := by omega
      obtain ⟨b, off, rfl, hb, hc⟩ := HR.out.at_ R.len hn0
      obtain ⟨x, hx⟩ : ∃ x, l[k]? = some x := ⟨_, List.getElem?_eq_getElem (by rw [HL.out]; exact hlt)⟩
      obtain ⟨c0, c1, c2⟩ := R.facts hb hB hc hx
      have HX := Lib.hid (drop_at hx)
      clear hc hx
      obtain ⟨mn, Hmn, hmn⟩ := min2_ex Try.prog x.at_ x.disk
      obtain ⟨mx, Hmx, hmx⟩ := max3_ex Try.prog x.at_ x.disk x.many
      go_upto_region 5 with (fail)
      go_cut [51] (fun v wc => v = .bool (badB x ez dz) ∧ (wr.alloc (.cells #[.int .i64 x.at_, .int .i64 x.disk, .int .i64 x.many] 50)) = wc)
      case first =>
        cases he : (x.at_ == ez) with
        | true =>
          cases hd : (x.disk == dz)
          all_goals
            go_wp2
            all_goals go_meet
            all_goals
              have Hn := Hmn.out
              have Hx := Hmx.out
              exact ⟨bool_eq (by rw [Bool.eq_iff_iff]; simp at he hd; simp [badB]; omega), rfl⟩
        | false =>
          go_wp2
          all_goals go_meet
          all_goals
            have Hn := Hmn.out
            have Hx := Hmx.out
            exact ⟨bool_eq (by rw [Bool.eq_iff_iff]; simp at he; simp [badB]; omega), rfl⟩
      case rest =>
        obtain ⟨rfl, rfl⟩ := hcut
        clear hmn hmx
        cases hbad : badB x ez dz with
        | true =>
          go_wp2
          go_ret
          exact Ret.mk (bool_eq (by rw [HM.out, HX.out, mr, if_pos hbad])) (hB.alloc hB.size _)
        | false =>
          have hg : mrTo l (k + 1) (x.at_ + x.many) (x.disk + x.many) := by
            unfold mrTo; rw [HM.out, HX.out, mr, if_neg (by simp [hbad])]
          have hbd : 0 ≤ x.at_ ∧ x.at_ ≤ 1099511627776 ∧ 0 ≤ x.disk ∧ x.disk ≤ 1099511627776 ∧ 1 ≤ x.many ∧ x.many ≤ 1099511627776 := by
            have := hbad
            simp [badB] at this
            omega
          obtain ⟨b1, b2, b3, b4, b5, b6⟩ := hbd
          have hs1 : IntKind.i64.wrap (x.at_ + x.many) = x.at_ + x.many := IntWalk.i64_in _ (by omega)
          have hs2 : IntKind.i64.wrap (x.disk + x.many) = x.disk + x.many := IntWalk.i64_in _ (by omega)
          have HG := Lib.hid hg
          have d0 : ∀ y : LaterOf (wr.alloc (.cells #[.int .i64 x.at_, .int .i64 x.disk, .int .i64 x.many] 50)), y.w.cell? ⟨wr.heap.size, 0, none⟩ = some (.int .i64 x.at_) := fun y => y.new_ 0 rfl
          have d1 : ∀ y : LaterOf (wr.alloc (.cells #[.int .i64 x.at_, .int .i64 x.disk, .int .i64 x.many] 50)), y.w.cell? ⟨wr.heap.size, 1, none⟩ = some (.int .i64 x.disk) := fun y => y.new_ 1 rfl
          have d2 : ∀ y : LaterOf (wr.alloc (.cells #[.int .i64 x.at_, .int .i64 x.disk, .int .i64 x.many] 50)), y.w.cell? ⟨wr.heap.size, 2, none⟩ = some (.int .i64 x.many) := fun y => y.new_ 2 rfl
          clear hg
          go_upto_region 7 with (fail)
          refine wp_region_later (by kernel_rfl) (by kernel_rfl) ?_
          repeat (go_big_quiet_step (fail))
          refine wpQuiet_nil ?_; intro _ hw'; obtain ⟨xq, hw''⟩ := hw'; subst hw''
          clear hs1 hs2
          go_wp2
          go_roundg (n - (k + 1))
          case measure => omega
          case rel => exact ⟨k + 1, _, _, by omega, rfl, by go_num, rfl, rfl, HG.out, ((hB.alloc hB.size _).trans (xq.h.mono (by have := hB.size; simp; omega)))⟩
    · go_wp2
      go_ret
      exact Ret.mk (bool_eq (by rw [HM.out, List.drop_eq_nil_of_le (by rw [HL.out]; omega)]; rfl)) hB
end Runs
end Go.Proofs.Ytfljbiobiobamaa
