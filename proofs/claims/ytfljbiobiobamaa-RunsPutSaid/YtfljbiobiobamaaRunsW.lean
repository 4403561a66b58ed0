/-
  Walks of package runs and of its reference.
-/
import Derived.Test.YtfljbiobiobamaaMem
namespace Go.Proofs.Ytfljbiobiobamaa
open Go.RowKit
namespace Runs


structure R where
  (at_ disk many : Int)
def R.cells (r : R) : List Value := [.int .i64 r.at_, .int .i64 r.disk, .int .i64 r.many]
theorem R.len : ∀ r : R, r.cells.length = 3 := fun _ => rfl
theorem R.facts {w wr : World} {b off B k : Nat} {l : List R} {x : R} (hb : b < B) (hB : Below B w wr) (hc : ∀ (i j : Nat) (x : R) (u : Value), l[i]? = some x → x.cells[j]? = some u → w.cell? ⟨b, off + (i * 3 + j), none⟩ = some u)
    (hx : l[k]? = some x) : wr.cell? ⟨b, off + k * 3, none⟩ = some (.int .i64 x.at_) ∧ wr.cell? ⟨b, off + k * 3 + 1, none⟩ = some (.int .i64 x.disk) ∧ wr.cell? ⟨b, off + k * 3 + 2, none⟩ = some (.int .i64 x.many) :=
  ⟨(hB.cell hb).trans (hc k 0 x _ hx rfl), (hB.cell hb).trans (hc k 1 x _ hx rfl), (hB.cell hb).trans (hc k 2 x _ hx rfl)⟩
def R.val (r : R) : Value := .agg #[.int .i64 r.at_, .int .i64 r.disk, .int .i64 r.many]
def R.obj (r : R) : Obj := .cells #[.int .i64 r.at_, .int .i64 r.disk, .int .i64 r.many] 50
/-- a run that is valid by itself -/
def oneB (r : R) : Bool := decide (0 ≤ r.at_) && decide (r.at_ ≤ 1099511627776) && decide (0 ≤ r.disk) && decide (r.disk ≤ 1099511627776) && decide (1 ≤ r.many) && decide (r.many ≤ 1099511627776)
def contB (a b : R) : Bool := decide (b.at_ = wrap64 (a.at_ + a.many)) && decide (b.disk = wrap64 (a.disk + a.many))

set_option maxHeartbeats 400000 in
theorem one_any (r : R) (w : World) :
    Calls Try.prog 34 #[r.val] w (Ret w (.bool (oneB r))) := by
  obtain ⟨a, d, m⟩ := r
  unfold R.val
  go_enter Try.func34, Try.ntmps34
  go_wp2
  all_goals go_ret
  all_goals exact Ret.mk (bool_eq (by rw [Bool.eq_iff_iff]; simp [oneB] <;> omega)) (by repeat (first | with_reducible refine Below.setCell ?_ (by first | (simp; done) | (simp; omega)) _ | with_reducible assumption | with_reducible exact Below.refl _ _ | with_reducible refine Below.alloc ?_ (by first | omega | (simp; done) | (simp; omega)) _ | with_reducible refine Below.drew ?_))

set_option maxHeartbeats 400000 in
theorem cont_any (r s : R) (w : World) :
    Calls Try.prog 39 #[r.val, s.val] w (Ret w (.bool (contB r s))) := by
  obtain ⟨a, d, m⟩ := r
  obtain ⟨a', d', m'⟩ := s
  unfold R.val
  go_enter Try.func39, Try.ntmps39
  go_wp2
  all_goals go_ret
  all_goals exact Ret.mk (bool_eq (by rw [Bool.eq_iff_iff]; simp [contB] <;> omega)) (by repeat (first | with_reducible refine Below.setCell ?_ (by first | (simp; done) | (simp; omega)) _ | with_reducible assumption | with_reducible exact Below.refl _ _ | with_reducible refine Below.alloc ?_ (by first | omega | (simp; done) | (simp; omega)) _ | with_reducible refine Below.drew ?_))

theorem one_is (r : R) (b : Bool) (w : World) (h : oneB r = b) : Calls Try.prog 34 #[r.val] w (Ret w (.bool b)) := by subst h; exact one_any r w
theorem cont_is (r s : R) (b : Bool) (w : World) (h : contB r s = b) : Calls Try.prog 39 #[r.val, s.val] w (Ret w (.bool b)) := by subst h; exact cont_any r s w
def okAt (l : List R) (k : Nat) : Bool := match l[k]? with
  | none => true
  | some r => oneB r && (match k with
    | 0 => true
    | k + 1 => match l[k]? with
      | none => true
      | some p => !(decide (r.at_ < wrap64 (p.at_ + p.many))) && !contB p r)
def rightB (l : List R) : Bool := (List.range l.length).all (okAt l)
def RightTo (l : List R) (k : Nat) : Prop := ∀ j, j < k → okAt l j = true
theorem RightTo.snoc {l : List R} {k : Nat} (h : RightTo l k) (hk : okAt l k = true) : RightTo l (k + 1) := fun j hj => by
  by_cases e : j = k
  · rw [e]; exact hk
  · exact h j (by omega)
theorem okAt_prev {l : List R} {k : Nat} {x p : R} (hk : 0 < k) (hx : l[k]? = some x) (hp : l[k - 1]? = some p) : okAt l k = (oneB x && (!(decide (x.at_ < wrap64 (p.at_ + p.many))) && !contB p x)) := by
  cases k with
  | zero => omega
  | succ k => simp only [Nat.add_sub_cancel] at hp; simp only [okAt, hx, hp]
theorem rightB_yes {l : List R} {k : Nat} (h : RightTo l k) (hk : k = l.length) : rightB l = true := by
  subst hk
  unfold rightB
  rw [List.all_eq_true]
  intro j hj
  exact h j (List.mem_range.1 hj)
theorem rightB_no {l : List R} {k : Nat} (hk : k < l.length) (h : okAt l k = false) : rightB l = false := by
  unfold rightB
  rw [List.all_eq_false]
  exact ⟨k, List.mem_range.2 hk, by simp [h]⟩

set_option maxHeartbeats 400000 in
theorem right_any (A : Option Addr) (n c : Nat) (l : List R) (w : World) (hr : Rd w w.heap.size 3 A n (l.flatMap R.cells)) (hl : l.length = n) (hn : n ≤ 9223372036854775807) :
    Calls Try.prog 33 #[.slice A n c] w (Ret w (.bool (rightB l))) := by
  have HR := Lib.hid hr
  have HL := Lib.hid hl
  clear hr hl
  go_enter Try.func33, Try.ntmps33
  go_wp2
  go_loopg [7] n (fun g i wr => ∃ k : Nat, k ≤ n ∧ g = n - k ∧ i = .int .i64 k ∧ RightTo l k ∧ Below w.heap.size w wr)
  case atStart => exact ⟨0, Nat.zero_le _, rfl, rfl, fun j hj => absurd hj (by omega), Below.refl _ _⟩
  case round =>
    obtain ⟨k, hk, rfl, rfl, hR, hB⟩ := hrel
    have HRT := Lib.hid hR
    clear hR
    by_cases hlt : k < n
    · have hn0 : 0 < n := by omega
      obtain ⟨b, off, rfl, hb, hc⟩ := HR.out.at_ R.len hn0
      obtain ⟨x, hx⟩ : ∃ x, l[k]? = some x := ⟨_, List.getElem?_eq_getElem (by rw [HL.out]; exact hlt)⟩
      obtain ⟨c0, c1, c2⟩ := R.facts hb hB hc hx
      have d0 : ∀ y : LaterOf (wr.alloc (.cells #[.int .i64 x.at_, .int .i64 x.disk, .int .i64 x.many] 50)), y.w.cell? ⟨wr.heap.size, 0, none⟩ = some (.int .i64 x.at_) := fun y => y.new_ 0 rfl
      have d1 : ∀ y : LaterOf (wr.alloc (.cells #[.int .i64 x.at_, .int .i64 x.disk, .int .i64 x.many] 50)), y.w.cell? ⟨wr.heap.size, 1, none⟩ = some (.int .i64 x.disk) := fun y => y.new_ 1 rfl
      have d2 : ∀ y : LaterOf (wr.alloc (.cells #[.int .i64 x.at_, .int .i64 x.disk, .int .i64 x.many] 50)), y.w.cell? ⟨wr.heap.size, 2, none⟩ = some (.int .i64 x.many) := fun y => y.new_ 2 rfl
      have hlt' : k < l.length := by rw [HL.out]; exact hlt
      have HX := Lib.hid hx
      clear hx
      cases h1 : oneB x with
      | false =>
        have H1 := Lib.hid h1
        clear h1
        go_upto_region 4 with (fail)
        refine wp_region_later (by kernel_rfl) (by kernel_rfl) ?_
        repeat (go_big_quiet_step ((go_at_call 34; exact Calls.later (one_is x false _ H1.out))))
        refine wpQuiet_nil ?_; intro _ hw'; obtain ⟨xq, hw''⟩ := hw'; subst hw''
        go_wp2
        go_ret
        exact Ret.mk (bool_eq (rightB_no hlt' (by simp [okAt, HX.out, H1.out])).symm) ((hB.alloc hB.size _).trans (xq.h.mono (by have := hB.size; simp; omega)))
      | true =>
        have H1 := Lib.hid h1
        clear h1
        by_cases hk0 : 0 < k
        · obtain ⟨p, hp⟩ : ∃ p, l[k - 1]? = some p := ⟨_, List.getElem?_eq_getElem (by omega)⟩
          obtain ⟨e0, e1, e2⟩ := R.facts hb hB hc hp
          have e0' := fun y : LaterOf (wr.alloc (.cells #[.int .i64 x.at_, .int .i64 x.disk, .int .i64 x.many] 50)) => y.old e0
          have e1' := fun y : LaterOf (wr.alloc (.cells #[.int .i64 x.at_, .int .i64 x.disk, .int .i64 x.many] 50)) => y.old e1
          have e2' := fun y : LaterOf (wr.alloc (.cells #[.int .i64 x.at_, .int .i64 x.disk, .int .i64 x.many] 50)) => y.old e2
          have hk1 : (0 : Int) < (k : Int) := by omega
          have HOK := Lib.hid (okAt_prev hk0 HX.out hp)
          clear hc hp
          cases h2 : decide (x.at_ < wrap64 (p.at_ + p.many)) with
          | true =>
            have h2' : x.at_ < wrap64 (p.at_ + p.many) := by simpa using h2
            go_upto_region 4 with (fail)
            refine wp_region_later (by kernel_rfl) (by kernel_rfl) ?_
            repeat (go_big_quiet_step ((go_at_call 34; exact Calls.later (one_is x true _ H1.out))))
            refine wpQuiet_nil ?_; intro _ hw'; obtain ⟨xq, hw''⟩ := hw'; subst hw''
            go_wp2
            go_ret
            exact Ret.mk (bool_eq (rightB_no hlt' (by rw [HOK.out, H1.out, h2]; rfl)).symm) ((hB.alloc hB.size _).trans (xq.h.mono (by have := hB.size; simp; omega)))
          | false =>
            have h2' : ¬ x.at_ < wrap64 (p.at_ + p.many) := by simpa using h2
            cases h3 : contB p x with
            | true =>
              have H3 := Lib.hid h3
              clear h3
              go_upto_region 4 with (fail)
              refine wp_region_later (by kernel_rfl) (by kernel_rfl) ?_
              repeat (go_big_quiet_step ((first | (go_at_call 34; exact Calls.later (one_is x true _ H1.out)) | (go_at_call 39; exact Calls.later (cont_is p x true _ H3.out)))))
              refine wpQuiet_nil ?_; intro _ hw'; obtain ⟨xq, hw''⟩ := hw'; subst hw''
              go_wp2
              go_ret
              exact Ret.mk (bool_eq (rightB_no hlt' (by rw [HOK.out, H1.out, h2, H3.out]; rfl)).symm) ((hB.alloc hB.size _).trans (xq.h.mono (by have := hB.size; simp; omega)))
            | false =>
              have H3 := Lib.hid h3
              clear h3
              go_upto_region 4 with (fail)
              refine wp_region_later (by kernel_rfl) (by kernel_rfl) ?_
              repeat (go_big_quiet_step ((first | (go_at_call 34; exact Calls.later (one_is x true _ H1.out)) | (go_at_call 39; exact Calls.later (cont_is p x false _ H3.out)))))
              refine wpQuiet_nil ?_; intro _ hw'; obtain ⟨xq, hw''⟩ := hw'; subst hw''
              go_wp2
              go_roundg (n - (k + 1))
              case measure => omega
              case rel => exact ⟨k + 1, by omega, rfl, by go_num, HRT.out.snoc (by rw [HOK.out, H1.out, h2, H3.out]; rfl), ((hB.alloc hB.size _).trans (xq.h.mono (by have := hB.size; simp; omega)))⟩
        · have hk1 : ¬ (0 : Int) < (k : Int) := by omega
          have hk2 : decide ((0 : Int) < (k : Int)) = false := by simp; omega
          clear hc
          go_upto_region 4 with (fail)
          refine wp_region_later (by kernel_rfl) (by kernel_rfl) ?_
          repeat (go_big_quiet_step ((go_at_call 34; exact Calls.later (one_is x true _ H1.out))))
          refine wpQuiet_nil ?_; intro _ hw'; obtain ⟨xq, hw''⟩ := hw'; subst hw''
          go_wp2
          go_roundg (n - (k + 1))
          case measure => omega
          case rel => exact ⟨k + 1, by omega, rfl, by go_num, HRT.out.snoc (by obtain rfl : k = 0 := by omega
                                                                               simp [okAt, HX.out, H1.out]), ((hB.alloc hB.size _).trans (xq.h.mono (by have := hB.size; simp; omega)))⟩
    · go_wp2
      go_ret
      exact Ret.mk (bool_eq (rightB_yes HRT.out (by rw [HL.out]; omega)).symm) hB
end Runs
end Go.Proofs.Ytfljbiobiobamaa
