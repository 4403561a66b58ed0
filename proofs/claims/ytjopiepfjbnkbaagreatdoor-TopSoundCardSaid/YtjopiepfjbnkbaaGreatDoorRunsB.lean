/-
  Base texts in one: RunsW, RunsW2, RunsF, RunsP, RcM, RcW, RcL, RcC, RpM. Conditions: none beyond each theorem's own premises.
-/
import Derived.Test.YtjopiepfjbnkbaaGreatDoorBase
import Derived.IntWalk
import Derived.Test.YtjopiepfjbnkbaaGreatDoorMap
import Derived.Test.YtjopiepfjbnkbaaGreatDoorDelIns
import Derived.BigRegion
/-! Walks of package runs and of its reference. -/
namespace Go.Proofs.YtjopiepfjbnkbaaGreatDoor
open Go.RowKit
namespace Runs


structure R where
  (at_ disk many : Int)
def R.cells (r : R) : List Value := [.int .i64 r.at_, .int .i64 r.disk, .int .i64 r.many]
theorem R.len : ∀ r : R, r.cells.length = 3 := fun _ => rfl
theorem R.facts {w wr : World} {b off B k : Nat} {l : List R} {x : R} (hb : b < B) (hB : Below B w wr) (hc : ∀ (i j : Nat) (x : R) (u : Value), l[i]? = some x → x.cells[j]? = some u → w.cell? ⟨b, off + (i * 3 + j), none⟩ = some u)
    (hx : l[k]? = some x) : wr.cell? ⟨b, off + k * 3, none⟩ = some (.int .i64 x.at_) ∧ wr.cell? ⟨b, off + k * 3 + 1, none⟩ = some (.int .i64 x.disk) ∧ wr.cell? ⟨b, off + k * 3 + 2, none⟩ = some (.int .i64 x.many) :=
  ⟨(hB.cell hb).trans (hc k 0 x _ hx rfl), (hB.cell hb).trans (hc k 1 x _ hx rfl), (hB.cell hb).trans (hc k 2 x _ hx rfl)⟩
def R.val (r : R) : Value := .agg #[.int .i64 r.at_, .int .i64 r.disk, .int .i64 r.many]
def R.obj (r : R) : Obj := .cells #[.int .i64 r.at_, .int .i64 r.disk, .int .i64 r.many] 60
/-- a run that is valid by itself -/
def oneB (r : R) : Bool := decide (0 ≤ r.at_) && decide (r.at_ ≤ 1099511627776) && decide (0 ≤ r.disk) && decide (r.disk ≤ 1099511627776) && decide (1 ≤ r.many) && decide (r.many ≤ 1099511627776)
def contB (a b : R) : Bool := decide (b.at_ = wrap64 (a.at_ + a.many)) && decide (b.disk = wrap64 (a.disk + a.many))

set_option maxHeartbeats 400000 in
theorem one_any (r : R) (w : World) :
    Calls Tryz.prog 25 #[r.val] w (Ret w (.bool (oneB r))) := by
  obtain ⟨a, d, m⟩ := r
  unfold R.val
  go_enter Tryz.func25, Tryz.ntmps25
  go_wp2
  all_goals go_ret
  all_goals exact Ret.mk (bool_eq (by rw [Bool.eq_iff_iff]; simp [oneB] <;> omega)) (by repeat (first | with_reducible refine Below.setCell ?_ (by first | (simp; done) | (simp; omega)) _ | with_reducible assumption | with_reducible exact Below.refl _ _ | with_reducible refine Below.alloc ?_ (by first | omega | (simp; done) | (simp; omega)) _ | with_reducible refine Below.drew ?_))

set_option maxHeartbeats 400000 in
theorem cont_any (r s : R) (w : World) :
    Calls Tryz.prog 30 #[r.val, s.val] w (Ret w (.bool (contB r s))) := by
  obtain ⟨a, d, m⟩ := r
  obtain ⟨a', d', m'⟩ := s
  unfold R.val
  go_enter Tryz.func30, Tryz.ntmps30
  go_wp2
  all_goals go_ret
  all_goals exact Ret.mk (bool_eq (by rw [Bool.eq_iff_iff]; simp [contB] <;> omega)) (by repeat (first | with_reducible refine Below.setCell ?_ (by first | (simp; done) | (simp; omega)) _ | with_reducible assumption | with_reducible exact Below.refl _ _ | with_reducible refine Below.alloc ?_ (by first | omega | (simp; done) | (simp; omega)) _ | with_reducible refine Below.drew ?_))

theorem one_is (r : R) (b : Bool) (w : World) (h : oneB r = b) : Calls Tryz.prog 25 #[r.val] w (Ret w (.bool b)) := by subst h; exact one_any r w
theorem cont_is (r s : R) (b : Bool) (w : World) (h : contB r s = b) : Calls Tryz.prog 30 #[r.val, s.val] w (Ret w (.bool b)) := by subst h; exact cont_any r s w
def okAt (l : List R) (k : Nat) : Bool := match l[k]? with
  | none => true
  | some r => oneB r && (match k with
    | 0 => true
    | k + 1 => match l[k]? with
      | none => true
      | some p => !(decide (r.at_ < wrap64 (p.at_ + p.many))) && !contB p r)
def rightB (l : List R) : Bool := (List.range l.length).all (okAt l)
def RightTo (l : List R) (k : Nat) : Prop := ∀ j, j < k → okAt l j = true
theorem RightTo.snoc {l : List R} {k : Nat} (h : RightTo l k) (hk : okAt l k = true) : RightTo l (k + 1) := fun j hj => by
  by_cases e : j = k
  · rw [e]; exact hk
  · exact h j (by omega)
theorem okAt_prev {l : List R} {k : Nat} {x p : R} (hk : 0 < k) (hx : l[k]? = some x) (hp : l[k - 1]? = some p) : okAt l k = (oneB x && (!(decide (x.at_ < wrap64 (p.at_ + p.many))) && !contB p x)) := by
  cases k with
  | zero => omega
  | succ k => simp only [Nat.add_sub_cancel] at hp; simp only [okAt, hx, hp]
theorem rightB_yes {l : List R} {k : Nat} (h : RightTo l k) (hk : k = l.length) : rightB l = true := by
  subst hk
  unfold rightB
  rw [List.all_eq_true]
  intro j hj
  exact h j (List.mem_range.1 hj)
theorem rightB_no {l : List R} {k : Nat} (hk : k < l.length) (h : okAt l k = false) : rightB l = false := by
  unfold rightB
  rw [List.all_eq_false]
  exact ⟨k, List.mem_range.2 hk, by simp [h]⟩

set_option maxHeartbeats 400000 in
theorem right_any (A : Option Addr) (n c : Nat) (l : List R) (w : World) (hr : Rd w w.heap.size 3 A n (l.flatMap R.cells)) (hl : l.length = n) (hn : n ≤ 9223372036854775807) :
    Calls Tryz.prog 24 #[.slice A n c] w (Ret w (.bool (rightB l))) := by
  have HR := Lib.hid hr
  have HL := Lib.hid hl
  clear hr hl
  go_enter Tryz.func24, Tryz.ntmps24
  go_wp2
  go_loopg [7] n (fun g i wr => ∃ k : Nat, k ≤ n ∧ g = n - k ∧ i = .int .i64 k ∧ RightTo l k ∧ Below w.heap.size w wr)
  case atStart => exact ⟨0, Nat.zero_le _, rfl, rfl, fun j hj => absurd hj (by omega), Below.refl _ _⟩
  case round =>
    obtain ⟨k, hk, rfl, rfl, hR, hB⟩ := hrel
    have HRT := Lib.hid hR
    clear hR
    by_cases hlt : k < n
    · have hn0 : 0 < n := by omega
      obtain ⟨b, off, rfl, hb, hc⟩ := HR.out.at_ R.len hn0
      obtain ⟨x, hx⟩ : ∃ x, l[k]? = some x := ⟨_, List.getElem?_eq_getElem (by rw [HL.out]; exact hlt)⟩
      obtain ⟨c0, c1, c2⟩ := R.facts hb hB hc hx
      have d0 : ∀ y : LaterOf (wr.alloc (.cells #[.int .i64 x.at_, .int .i64 x.disk, .int .i64 x.many] 60)), y.w.cell? ⟨wr.heap.size, 0, none⟩ = some (.int .i64 x.at_) := fun y => y.new_ 0 rfl
      have d1 : ∀ y : LaterOf (wr.alloc (.cells #[.int .i64 x.at_, .int .i64 x.disk, .int .i64 x.many] 60)), y.w.cell? ⟨wr.heap.size, 1, none⟩ = some (.int .i64 x.disk) := fun y => y.new_ 1 rfl
      have d2 : ∀ y : LaterOf (wr.alloc (.cells #[.int .i64 x.at_, .int .i64 x.disk, .int .i64 x.many] 60)), y.w.cell? ⟨wr.heap.size, 2, none⟩ = some (.int .i64 x.many) := fun y => y.new_ 2 rfl
      have hlt' : k < l.length := by rw [HL.out]; exact hlt
      have HX := Lib.hid hx
      clear hx
      cases h1 : oneB x with
      | false =>
        have H1 := Lib.hid h1
        clear h1
        go_upto_region 4 with (fail)
        refine wp_region_later (by kernel_rfl) (by kernel_rfl) ?_
        repeat (go_big_quiet_step ((go_at_call 25; exact Calls.later (one_is x false _ H1.out))))
        refine wpQuiet_nil ?_; intro _ hw'; obtain ⟨xq, hw''⟩ := hw'; subst hw''
        go_wp2
        go_ret
        exact Ret.mk (bool_eq (rightB_no hlt' (by simp [okAt, HX.out, H1.out])).symm) ((hB.alloc hB.size _).trans (xq.h.mono (by have := hB.size; simp; omega)))
      | true =>
        have H1 := Lib.hid h1
        clear h1
        by_cases hk0 : 0 < k
        · obtain ⟨p, hp⟩ : ∃ p, l[k - 1]? = some p := ⟨_, List.getElem?_eq_getElem (by omega)⟩
          obtain ⟨e0, e1, e2⟩ := R.facts hb hB hc hp
          have e0' := fun y : LaterOf (wr.alloc (.cells #[.int .i64 x.at_, .int .i64 x.disk, .int .i64 x.many] 60)) => y.old e0
          have e1' := fun y : LaterOf (wr.alloc (.cells #[.int .i64 x.at_, .int .i64 x.disk, .int .i64 x.many] 60)) => y.old e1
          have e2' := fun y : LaterOf (wr.alloc (.cells #[.int .i64 x.at_, .int .i64 x.disk, .int .i64 x.many] 60)) => y.old e2
          have hk1 : (0 : Int) < (k : Int) := by omega
          have HOK := Lib.hid (okAt_prev hk0 HX.out hp)
          clear hc hp
          cases h2 : decide (x.at_ < wrap64 (p.at_ + p.many)) with
          | true =>
            have h2' : x.at_ < wrap64 (p.at_ + p.many) := by simpa using h2
            go_upto_region 4 with (fail)
            refine wp_region_later (by kernel_rfl) (by kernel_rfl) ?_
            repeat (go_big_quiet_step ((go_at_call 25; exact Calls.later (one_is x true _ H1.out))))
            refine wpQuiet_nil ?_; intro _ hw'; obtain ⟨xq, hw''⟩ := hw'; subst hw''
            go_wp2
            go_ret
            exact Ret.mk (bool_eq (rightB_no hlt' (by rw [HOK.out, H1.out, h2]; rfl)).symm) ((hB.alloc hB.size _).trans (xq.h.mono (by have := hB.size; simp; omega)))
          | false =>
            have h2' : ¬ x.at_ < wrap64 (p.at_ + p.many) := by simpa using h2
            cases h3 : contB p x with
            | true =>
              have H3 := Lib.hid h3
              clear h3
              go_upto_region 4 with (fail)
              refine wp_region_later (by kernel_rfl) (by kernel_rfl) ?_
              repeat (go_big_quiet_step ((first | (go_at_call 25; exact Calls.later (one_is x true _ H1.out)) | (go_at_call 30; exact Calls.later (cont_is p x true _ H3.out)))))
              refine wpQuiet_nil ?_; intro _ hw'; obtain ⟨xq, hw''⟩ := hw'; subst hw''
              go_wp2
              go_ret
              exact Ret.mk (bool_eq (rightB_no hlt' (by rw [HOK.out, H1.out, h2, H3.out]; rfl)).symm) ((hB.alloc hB.size _).trans (xq.h.mono (by have := hB.size; simp; omega)))
            | false =>
              have H3 := Lib.hid h3
              clear h3
              go_upto_region 4 with (fail)
              refine wp_region_later (by kernel_rfl) (by kernel_rfl) ?_
              repeat (go_big_quiet_step ((first | (go_at_call 25; exact Calls.later (one_is x true _ H1.out)) | (go_at_call 30; exact Calls.later (cont_is p x false _ H3.out)))))
              refine wpQuiet_nil ?_; intro _ hw'; obtain ⟨xq, hw''⟩ := hw'; subst hw''
              go_wp2
              go_roundg (n - (k + 1))
              case measure => omega
              case rel => exact ⟨k + 1, by omega, rfl, by go_num, HRT.out.snoc (by rw [HOK.out, H1.out, h2, H3.out]; rfl), ((hB.alloc hB.size _).trans (xq.h.mono (by have := hB.size; simp; omega)))⟩
        · have hk1 : ¬ (0 : Int) < (k : Int) := by omega
          have hk2 : decide ((0 : Int) < (k : Int)) = false := by simp; omega
          clear hc
          go_upto_region 4 with (fail)
          refine wp_region_later (by kernel_rfl) (by kernel_rfl) ?_
          repeat (go_big_quiet_step ((go_at_call 25; exact Calls.later (one_is x true _ H1.out))))
          refine wpQuiet_nil ?_; intro _ hw'; obtain ⟨xq, hw''⟩ := hw'; subst hw''
          go_wp2
          go_roundg (n - (k + 1))
          case measure => omega
          case rel => exact ⟨k + 1, by omega, rfl, by go_num, HRT.out.snoc (by obtain rfl : k = 0 := by omega
                                                                               simp [okAt, HX.out, H1.out]), ((hB.alloc hB.size _).trans (xq.h.mono (by have := hB.size; simp; omega)))⟩
    · go_wp2
      go_ret
      exact Ret.mk (bool_eq (rightB_yes HRT.out (by rw [HL.out]; omega)).symm) hB
end Runs
end Go.Proofs.YtjopiepfjbnkbaaGreatDoor
/-! Walks of package runs, second part: the reference's MRight and MFind, runs.Find. -/
namespace Go.Proofs.YtjopiepfjbnkbaaGreatDoor
open Go.RowKit
namespace Runs

def badB (r : R) (e d : Int) : Bool := decide (r.at_ < 0) || decide (r.disk < 0) || decide (r.many < 1) || decide (1099511627776 < r.at_) || decide (1099511627776 < r.disk) || decide (1099511627776 < r.many) || decide (r.at_ < e) || (decide (r.at_ = e) && decide (r.disk = d))
def mr (e d : Int) : List R → Bool
  | [] => true
  | r :: t => if badB r e d then false else mr (r.at_ + r.many) (r.disk + r.many) t

theorem drop_at {α : Type} {l : List α} {k : Nat} {x : α} (h : l[k]? = some x) : l.drop k = x :: l.drop (k + 1) := by
  obtain ⟨hk, rfl⟩ := List.getElem?_eq_some_iff.1 h
  exact List.drop_eq_getElem_cons hk

def mrTo (l : List R) (k : Nat) (e d : Int) : Prop := mr (-1) 0 l = mr e d (l.drop k)

end Runs
end Go.Proofs.YtjopiepfjbnkbaaGreatDoor
/-! Walks of package runs, the reference's MFind. -/
namespace Go.Proofs.YtjopiepfjbnkbaaGreatDoor
open Go.RowKit
namespace Runs

def findL (block : Int) : List R → Option Int
  | [] => none
  | r :: t => if r.at_ ≤ block ∧ block < r.at_ + r.many then some (r.disk + block - r.at_) else findL block t
def Small (r : R) : Prop := 0 ≤ r.at_ ∧ r.at_ ≤ 1099511627776 ∧ 0 ≤ r.disk ∧ r.disk ≤ 1099511627776 ∧ 1 ≤ r.many ∧ r.many ≤ 1099511627776
theorem small_of_one {r : R} (h : oneB r = true) : Small r := by simp [oneB] at h; unfold Small; omega
theorem small_of_right {l : List R} (h : rightB l = true) : ∀ r ∈ l, Small r := by
  intro r hr
  obtain ⟨i, hi, rfl⟩ := List.getElem_of_mem hr
  unfold rightB at h
  rw [List.all_eq_true] at h
  have := h i (List.mem_range.2 hi)
  unfold okAt at this
  rw [List.getElem?_eq_getElem hi] at this
  simp only [Bool.and_eq_true] at this
  exact small_of_one this.1

theorem pair_eq {a b a' b' : Int} {p : Int × Int} (h : p = (a', b')) (ha : a = a') (hb : b = b') : Value.tuple #[.int .i64 a, .int .i64 b] = Value.tuple #[.int .i64 p.1, .int .i64 p.2] := by rw [h, ha, hb]

def mfindL (block : Int) (l : List R) : Int := (findL block l).getD (-1)

end Runs
end Go.Proofs.YtjopiepfjbnkbaaGreatDoor
/-! Plain law of RunsFind: the program's and the reference's test of a list of runs are one. -/
namespace Go.Proofs.YtjopiepfjbnkbaaGreatDoor
open Go.RowKit
namespace Runs

def chk : Option R → R → Bool
  | none, _ => true
  | some p, r => !(decide (r.at_ < wrap64 (p.at_ + p.many))) && !contB p r
def rightR : Option R → List R → Bool
  | _, [] => true
  | p, r :: t => (oneB r && chk p r) && rightR (some r) t

theorem okAt_here (pre : List R) (r : R) (t : List R) : okAt (pre ++ r :: t) pre.length = (oneB r && chk pre.getLast? r) := by
  unfold okAt
  rw [List.getElem?_append_right (Nat.le_refl _), Nat.sub_self, List.getElem?_cons_zero]
  simp only
  congr 1
  cases hk : pre.length with
  | zero =>
    obtain rfl : pre = [] := List.length_eq_zero_iff.1 hk
    rfl
  | succ k =>
    have hl : pre.getLast? = pre[k]? := by rw [List.getLast?_eq_getElem?, hk]; rfl
    have hg : pre[k]? = some (pre[k]'(by omega)) := List.getElem?_eq_getElem _
    simp only
    rw [List.getElem?_append_left (by omega), hl, hg]
    rfl

theorem all_rightR (l : List R) : ∀ pre : List R, ((List.range l.length).all fun j => okAt (pre ++ l) (pre.length + j)) = rightR pre.getLast? l := by
  induction l with
  | nil => intro pre; rfl
  | cons r t ih =>
    intro pre
    rw [List.length_cons, List.range_succ_eq_map, List.all_cons, List.all_map, rightR, Nat.add_zero, okAt_here]
    congr 1
    have h := ih (pre ++ [r])
    rw [List.getLast?_append, List.getLast?_singleton, Option.some_or] at h
    rw [← h]
    congr 1
    funext j
    simp only [Function.comp, List.append_assoc, List.cons_append, List.nil_append, List.length_append, List.length_cons, List.length_nil]
    congr 1
    omega

theorem rightB_eq (l : List R) : rightB l = rightR none l := by
  have := all_rightR l []
  simpa [rightB] using this

theorem wrap_small {a b : Int} (ha : 0 ≤ a) (ha' : a ≤ 1099511627776) (hb : 1 ≤ b) (hb' : b ≤ 1099511627776) : wrap64 (a + b) = a + b := IntWalk.wrap64_in _ ⟨by omega, by omega⟩

theorem mr_eq (l : List R) : ∀ (p : Option R) (e d : Int), (p = none ∧ e = -1 ∧ d = 0 ∨ ∃ q, p = some q ∧ Small q ∧ e = q.at_ + q.many ∧ d = q.disk + q.many) → mr e d l = rightR p l := by
  induction l with
  | nil => intros; rfl
  | cons r t ih =>
    intro p e d h
    rw [mr, rightR]
    cases ho : oneB r with
    | false =>
      have : badB r e d = true := by
        simp [oneB] at ho
        simp [badB]
        omega
      simp [this]
    | true =>
      have hs := small_of_one ho
      obtain ⟨s1, s2, s3, s4, s5, s6⟩ := hs
      rw [← ih (some r) _ _ (.inr ⟨r, rfl, ⟨s1, s2, s3, s4, s5, s6⟩, rfl, rfl⟩)]
      have hb : badB r e d = !chk p r := by
        rcases h with ⟨rfl, rfl, rfl⟩ | ⟨q, rfl, ⟨q1, q2, q3, q4, q5, q6⟩, rfl, rfl⟩
        · simp [badB, chk]
          omega
        · simp only [chk, contB, wrap_small q1 q2 q5 q6, wrap_small q3 q4 q5 q6]
          rw [Bool.eq_iff_iff]
          simp [badB]
          omega
      rw [hb]
      cases chk p r <;> simp

theorem mr_right (l : List R) : mr (-1) 0 l = rightB l := by rw [rightB_eq]; exact mr_eq l none _ _ (.inl ⟨rfl, rfl, rfl⟩)

theorem findL_range {block : Int} {l : List R} {d : Int} (hs : ∀ r ∈ l, Small r) (h : findL block l = some d) : 0 ≤ d ∧ d ≤ 2199023255552 := by
  induction l with
  | nil => cases h
  | cons r t ih =>
    rw [findL] at h
    split at h
    · have := hs r (by simp)
      unfold Small at this
      injection h with h
      omega
    · exact ih (fun x hx => hs x (by simp [hx])) h

end Runs
end Go.Proofs.YtjopiepfjbnkbaaGreatDoor
/-! Runs in order: what they say of each block tells them; runs without some blocks. Conditions: none beyond each theorem's own premises. -/
namespace Go.Proofs.YtjopiepfjbnkbaaGreatDoor
namespace Runs
set_option linter.unusedVariables false
/-- the disk block of a block -/
def fn (x : Int) : List R → Option Int
  | [] => none
  | r :: t => if r.at_ ≤ x ∧ x < r.at_ + r.many then some (r.disk + (x - r.at_)) else fn x t
/-- runs in order behind p, none continuing the one ahead of it -/
def NF : Option R → List R → Prop
  | _, [] => True
  | p, r :: t => 1 ≤ r.many ∧ (∀ q, p = some q → q.at_ + q.many ≤ r.at_ ∧ ¬ (q.at_ + q.many = r.at_ ∧ q.disk + q.many = r.disk)) ∧ NF (some r) t
theorem fn_in {r : R} {t : List R} {x : Int} (h1 : r.at_ ≤ x) (h2 : x < r.at_ + r.many) : fn x (r :: t) = some (r.disk + (x - r.at_)) := by
  simp only [fn]; rw [if_pos ⟨h1, h2⟩]
theorem fn_out {r : R} {t : List R} {x : Int} (h : x < r.at_ ∨ r.at_ + r.many ≤ x) : fn x (r :: t) = fn x t := by
  simp only [fn]; rw [if_neg (by omega)]
theorem fn_lo : ∀ {l : List R} {q : R} {x : Int}, NF (some q) l → x < q.at_ + q.many → fn x l = none
  | [], _, _, _, _ => rfl
  | r :: t, q, x, h, hx => by
    obtain ⟨h1, h2, h3⟩ := h
    have h4 := (h2 q rfl).1
    rw [fn_out (.inl (by omega))]
    exact fn_lo h3 (by omega)
theorem fn_end : ∀ {l : List R} {q : R}, NF (some q) l → fn (q.at_ + q.many) l ≠ some (q.disk + q.many)
  | [], _, _ => by simp [fn]
  | r :: t, q, h => by
    obtain ⟨h1, h2, h3⟩ := h
    obtain ⟨h4, h5⟩ := h2 q rfl
    by_cases e : q.at_ + q.many = r.at_
    · rw [fn_in (by omega) (by omega)]
      intro hh
      have hh := Option.some.inj hh
      exact h5 ⟨e, by omega⟩
    · rw [fn_out (.inl (by omega)), fn_lo h3 (by omega)]
      simp
theorem nf_head {r r' : R} {t t' : List R} {p p' : Option R} (h : NF p (r :: t)) (h' : NF p' (r' :: t')) (hf : ∀ x, fn x (r :: t) = fn x (r' :: t')) : r'.at_ ≤ r.at_ := by
  obtain ⟨h1, _, h3⟩ := h
  obtain ⟨h1', _, h3'⟩ := h'
  rcases Int.lt_or_le r.at_ r'.at_ with e | e
  · have := hf r.at_
    rw [fn_in (Int.le_refl _) (by omega), fn_out (.inl e), fn_lo h3' (by omega)] at this
    cases this
  · exact e
theorem nf_many {r r' : R} {t t' : List R} {p p' : Option R} (h : NF p (r :: t)) (h' : NF p' (r' :: t')) (hf : ∀ x, fn x (r :: t) = fn x (r' :: t')) (ha : r.at_ = r'.at_) (hd : r.disk = r'.disk) : r'.many ≤ r.many := by
  obtain ⟨h1, _, h3⟩ := h
  rcases Int.lt_or_le r.many r'.many with e | e
  · have := hf (r.at_ + r.many)
    rw [fn_out (.inr (by omega)), fn_in (r := r') (by omega) (by omega)] at this
    exact absurd (this.trans (by congr 1; omega)) (fn_end h3)
  · exact e
/-- two lists in order that say the same of each block are one -/
theorem nf_one : ∀ (l l' : List R) (p p' : Option R), NF p l → NF p' l' → (∀ x, fn x l = fn x l') → l = l'
  | [], [], _, _, _, _, _ => rfl
  | [], r' :: t', _, _, _, h', hf => by
    have := hf r'.at_
    rw [fn_in (Int.le_refl _) (by have := h'.1; omega)] at this
    cases this
  | r :: t, [], _, _, h, _, hf => by
    have := hf r.at_
    rw [fn_in (Int.le_refl _) (by have := h.1; omega)] at this
    cases this
  | r :: t, r' :: t', p, p', h, h', hf => by
    have ea : r.at_ = r'.at_ := Int.le_antisymm (nf_head h' h (fun x => (hf x).symm)) (nf_head h h' hf)
    have ed : r.disk = r'.disk := by
      have := hf r.at_
      rw [fn_in (Int.le_refl _) (by have := h.1; omega), fn_in (r := r') (by omega) (by have := h'.1; omega)] at this
      have := Option.some.inj this
      omega
    have em : r.many = r'.many := Int.le_antisymm (nf_many h' h (fun x => (hf x).symm) ea.symm ed.symm) (nf_many h h' hf ea ed)
    have er : r = r' := by cases r; cases r'; simp_all
    subst er
    rw [nf_one t t' _ _ h.2.2 h'.2.2 (fun x => by
      rcases Int.lt_or_le x (r.at_ + r.many) with e | e
      · rw [fn_lo h.2.2 e, fn_lo h'.2.2 e]
      · have := hf x
        rwa [fn_out (.inr e), fn_out (.inr e)] at this)]
/-- what is left of a run ahead of s, and behind e -/
def lo1 (s : Int) (r : R) : List R := if 0 < min r.many (s - r.at_) then [⟨r.at_, r.disk, min r.many (s - r.at_)⟩] else []
def hi1 (e : Int) (r : R) : List R := if 0 < min r.many (r.at_ + r.many - e) then [⟨r.at_ + (r.many - min r.many (r.at_ + r.many - e)), r.disk + (r.many - min r.many (r.at_ + r.many - e)), min r.many (r.at_ + r.many - e)⟩] else []
def cutL (s e : Int) (l : List R) : List R := l.flatMap fun r => lo1 s r ++ hi1 e r
theorem cut_nil (s e : Int) : cutL s e [] = [] := rfl
theorem cut_cons (s e : Int) (r : R) (t : List R) : cutL s e (r :: t) = lo1 s r ++ (hi1 e r ++ cutL s e t) := by
  rw [cutL, List.flatMap_cons, List.append_assoc]; rfl
theorem fn_cut {s e : Int} (hse : s < e) (x : Int) : ∀ l : List R, (∀ r ∈ l, 1 ≤ r.many) → fn x (cutL s e l) = if s ≤ x ∧ x < e then none else fn x l
  | [], _ => by simp [cut_nil, fn]
  | r :: t, h => by
    have h1 := h r (by simp)
    have ih := fn_cut hse x t (fun r hr => h r (by simp [hr]))
    rw [cut_cons]
    have hA : ∀ L, fn x (lo1 s r ++ L) = if r.at_ ≤ x ∧ x < r.at_ + r.many ∧ x < s then some (r.disk + (x - r.at_)) else fn x L := fun L => by
      unfold lo1
      split
      · rw [List.singleton_append]
        simp only [fn]
        split <;> split <;> first | rfl | omega
      · rw [List.nil_append, if_neg (by omega)]
    have hB : ∀ L, fn x (hi1 e r ++ L) = if r.at_ ≤ x ∧ x < r.at_ + r.many ∧ e ≤ x then some (r.disk + (x - r.at_)) else fn x L := fun L => by
      unfold hi1
      split
      · rw [List.singleton_append]
        simp only [fn]
        split <;> split <;> first | rfl | omega | (congr 1; omega)
      · rw [List.nil_append, if_neg (by omega)]
    rw [hA, hB, ih]
    simp only [fn]
    repeat' split
    all_goals first | rfl | omega
theorem nf_cut {s e : Int} (hse : s < e) : ∀ (l : List R) (p p' : Option R), NF p l →
    (∀ q', p' = some q' → ∃ q, p = some q ∧ q'.at_ + q'.many ≤ q.at_ + q.many ∧ (q'.at_ + q'.many = q.at_ + q.many → q'.disk + q'.many = q.disk + q.many)) → NF p' (cutL s e l)
  | [], _, _, _, _ => trivial
  | r :: t, p, p', h, hp => by
    obtain ⟨h1, h2, h3⟩ := h
    have hq : ∀ q', p' = some q' → q'.at_ + q'.many ≤ r.at_ ∧ ¬ (q'.at_ + q'.many = r.at_ ∧ q'.disk + q'.many = r.disk) := fun q' e' => by
      obtain ⟨q, e1, e2, e3⟩ := hp q' e'
      obtain ⟨e4, e5⟩ := h2 q e1
      refine ⟨by omega, fun ⟨e6, e7⟩ => e5 ⟨by omega, ?_⟩⟩
      have := e3 (by omega)
      omega
    rw [cut_cons]
    unfold lo1 hi1
    by_cases c1 : 0 < min r.many (s - r.at_) <;> by_cases c2 : 0 < min r.many (r.at_ + r.many - e)
    · rw [if_pos c1, if_pos c2]
      refine ⟨by simp only; omega, hq, by simp only; omega, ?_, nf_cut hse t (some r) _ h3 ?_⟩
      · rintro q ⟨⟩
        simp only
        omega
      · rintro q ⟨⟩
        exact ⟨r, rfl, by simp only; omega, by simp only; omega⟩
    · rw [if_pos c1, if_neg c2]
      refine ⟨by simp only; omega, hq, nf_cut hse t (some r) _ h3 ?_⟩
      rintro q ⟨⟩
      exact ⟨r, rfl, by simp only; omega, by simp only; omega⟩
    · rw [if_neg c1, if_pos c2]
      refine ⟨by simp only; omega, fun q' e' => ?_, nf_cut hse t (some r) _ h3 ?_⟩
      · have := hq q' e'
        simp only
        omega
      · rintro q ⟨⟩
        exact ⟨r, rfl, by simp only; omega, by simp only; omega⟩
    · rw [if_neg c1, if_neg c2]
      refine nf_cut hse t (some r) _ h3 fun q' e' => ⟨r, rfl, ?_, ?_⟩
      · have := hq q' e'; omega
      · have := hq q' e'; omega
/-- runs in order behind p -/
def Od : Option R → List R → Prop
  | _, [] => True
  | p, r :: t => 1 ≤ r.many ∧ (∀ q, p = some q → q.at_ + q.many ≤ r.at_) ∧ Od (some r) t
/-- neighbours that continue each other made one -/
def join : List R → List R
  | [] => []
  | [a] => [a]
  | a :: b :: t => if a.at_ + a.many = b.at_ ∧ a.disk + a.many = b.disk then join (⟨a.at_, a.disk, a.many + b.many⟩ :: t) else a :: join (b :: t)
termination_by l => l.length
theorem od_lo : ∀ {l : List R} {q : R} {x : Int}, Od (some q) l → x < q.at_ + q.many → fn x l = none
  | [], _, _, _, _ => rfl
  | r :: t, q, x, h, hx => by
    obtain ⟨h1, h2, h3⟩ := h
    have h4 := h2 q rfl
    rw [fn_out (.inl (by omega))]
    exact od_lo h3 (by omega)
theorem od_same {q q' : R} (h : q'.at_ + q'.many = q.at_ + q.many) : ∀ {l : List R}, Od (some q) l → Od (some q') l
  | [], _ => trivial
  | r :: t, ⟨h1, h2, h3⟩ => ⟨h1, fun y e => by cases e; have := h2 q rfl; omega, h3⟩
theorem fn_join (x : Int) : ∀ (n : Nat) (l : List R) (p : Option R), l.length = n → Od p l → fn x (join l) = fn x l
  | _, [], _, _, _ => by rw [join]
  | _, [a], _, _, _ => by rw [join]
  | 0, _ :: _ :: _, _, h, _ => by simp at h
  | n + 1, a :: b :: t, p, hl, h => by
    obtain ⟨h1, h2, h3, h4, h5⟩ := h
    have h4 := h4 a rfl
    rw [join]
    split
    case isTrue hc =>
      rw [fn_join x n (⟨a.at_, a.disk, a.many + b.many⟩ :: t) p (by simpa using hl) ⟨by simp only; omega, h2, od_same (by simp only; omega) h5⟩]
      simp only [fn]
      repeat' split
      all_goals first | rfl | omega | (congr 1; omega)
    case isFalse hc =>
      have ih := fn_join x n (b :: t) (some a) (by simpa using hl) ⟨h3, fun y e => by cases e; exact h4, h5⟩
      simp only [fn] at ih ⊢
      rw [ih]
theorem nf_join : ∀ (n : Nat) (l : List R) (p : Option R), l.length = n → Od p l → (∀ q r t, p = some q → l = r :: t → ¬ (q.at_ + q.many = r.at_ ∧ q.disk + q.many = r.disk)) → NF p (join l)
  | _, [], _, _, _, _ => by rw [join]; trivial
  | _, [a], _, _, h, hc => by rw [join]; exact ⟨h.1, fun q e => ⟨h.2.1 q e, hc q a [] e rfl⟩, trivial⟩
  | 0, _ :: _ :: _, _, h, _, _ => by simp at h
  | n + 1, a :: b :: t, p, hl, h, hc => by
    obtain ⟨h1, h2, h3, h4, h5⟩ := h
    have h4' := h4 a rfl
    rw [join]
    split
    case isTrue hd =>
      exact nf_join n (⟨a.at_, a.disk, a.many + b.many⟩ :: t) p (by simpa using hl) ⟨by simp only; omega, h2, od_same (by simp only; omega) h5⟩ (fun q r t' e e' => by cases e'; exact hc q a (b :: t) e rfl)
    case isFalse hd =>
      exact ⟨h1, fun q e => ⟨h2 q e, hc q a (b :: t) e rfl⟩, nf_join n (b :: t) (some a) (by simpa using hl) ⟨h3, fun y e => by cases e; exact h4', h5⟩ (fun q r t' e e' => by cases e; cases e'; exact hd)⟩
theorem fn_mem {x v : Int} : ∀ {l : List R}, fn x l = some v → ∃ r ∈ l, r.at_ ≤ x ∧ x < r.at_ + r.many ∧ v = r.disk + (x - r.at_)
  | [], h => by simp [fn] at h
  | r :: t, h => by
    simp only [fn] at h
    split at h
    case isTrue hc => exact ⟨r, by simp, hc.1, hc.2, (Option.some.inj h).symm⟩
    case isFalse hc =>
      obtain ⟨y, hy, h2⟩ := fn_mem h
      exact ⟨y, by simp [hy], h2⟩
theorem od_mem {l : List R} : ∀ {q : R}, Od (some q) l → ∀ r ∈ l, q.at_ + q.many ≤ r.at_ := by
  induction l with
  | nil => intro q _ r hr; cases hr
  | cons a t ih =>
    intro q h r hr
    obtain ⟨h1, h2, h3⟩ := h
    have h2 := h2 q rfl
    rcases List.mem_cons.mp hr with rfl | hr
    · exact h2
    · have := ih h3 r hr; omega
theorem fn_of {x : Int} : ∀ {l : List R} {p : Option R}, Od p l → ∀ r ∈ l, r.at_ ≤ x → x < r.at_ + r.many → fn x l = some (r.disk + (x - r.at_))
  | a :: t, p, h, r, hr, h1, h2 => by
    rcases List.mem_cons.mp hr with rfl | hr
    · exact fn_in h1 h2
    · have h3 := od_mem h.2.2 r hr
      rw [fn_out (.inr (by omega))]
      exact fn_of h.2.2 r hr h1 h2
/-- two lists in order, of which each block that the one tells the other tells so too, say the same -/
theorem fn_same {l l' : List R} {p p' : Option R} (h : Od p l) (h' : Od p' l')
    (h1 : ∀ r ∈ l, ∀ x, r.at_ ≤ x → x < r.at_ + r.many → ∃ r' ∈ l', r'.at_ ≤ x ∧ x < r'.at_ + r'.many ∧ r'.disk - r'.at_ = r.disk - r.at_)
    (h2 : ∀ r ∈ l', ∀ x, r.at_ ≤ x → x < r.at_ + r.many → ∃ r' ∈ l, r'.at_ ≤ x ∧ x < r'.at_ + r'.many ∧ r'.disk - r'.at_ = r.disk - r.at_) (x : Int) : fn x l = fn x l' := by
  cases hx : fn x l with
  | some v =>
    obtain ⟨r, hr, e1, e2, e3⟩ := fn_mem hx
    obtain ⟨r', hr', e4, e5, e6⟩ := h1 r hr x e1 e2
    rw [fn_of h' r' hr' e4 e5]
    congr 1; omega
  | none =>
    cases hx' : fn x l' with
    | none => rfl
    | some v =>
      obtain ⟨r, hr, e1, e2, e3⟩ := fn_mem hx'
      obtain ⟨r', hr', e4, e5, e6⟩ := h2 r hr x e1 e2
      rw [fn_of h r' hr' e4 e5] at hx
      cases hx
theorem od_of_nf : ∀ {l : List R} {p : Option R}, NF p l → Od p l
  | [], _, _ => trivial
  | r :: t, p, h => ⟨h.1, fun q e => (h.2.1 q e).1, od_of_nf h.2.2⟩
/-- pieces sorted by where they begin are in order -/
theorem od_sorted : ∀ {l : List R} {p : Option R}, (∀ r ∈ l, 1 ≤ r.many) → (∀ q, p = some q → ∀ r ∈ l, q.at_ + q.many ≤ r.at_) → l.Pairwise (fun a b => a.at_ < b.at_) → (∀ a ∈ l, ∀ b ∈ l, a.at_ < b.at_ → a.at_ + a.many ≤ b.at_) → Od p l
  | [], _, _, _, _, _ => trivial
  | r :: t, p, h1, h2, h3, h4 => by
    rw [List.pairwise_cons] at h3
    exact ⟨h1 r (by simp), fun q e => h2 q e r (by simp), od_sorted (fun y hy => h1 y (by simp [hy])) (fun q e y hy => by cases e; exact h4 r (by simp) y (by simp [hy]) (h3.1 y hy)) h3.2 (fun a ha b hb => h4 a (by simp [ha]) b (by simp [hb]))⟩
theorem edge_lo {E : List Int} {x y0 : Int} (h : y0 ∈ E) (h0 : y0 ≤ x) : ∃ y ∈ E, y ≤ x ∧ ∀ z ∈ E, z ≤ x → z ≤ y := by
  induction E generalizing y0 with
  | nil => cases h
  | cons a t ih =>
    by_cases hex : ∃ b ∈ t, b ≤ x
    · obtain ⟨b, hb, hbx⟩ := hex
      obtain ⟨y, hy, h1, h2⟩ := ih hb hbx
      by_cases ha : a ≤ x ∧ y < a
      · exact ⟨a, by simp, ha.1, fun z hz hzx => by
          rcases List.mem_cons.mp hz with rfl | hz
          · omega
          · have := h2 z hz hzx; omega⟩
      · exact ⟨y, by simp [hy], h1, fun z hz hzx => by
          rcases List.mem_cons.mp hz with rfl | hz
          · omega
          · exact h2 z hz hzx⟩
    · rcases List.mem_cons.mp h with rfl | h
      · exact ⟨y0, by simp, h0, fun z hz hzx => by
          rcases List.mem_cons.mp hz with rfl | hz
          · omega
          · exact absurd ⟨z, hz, hzx⟩ hex⟩
      · exact absurd ⟨y0, h, h0⟩ hex
theorem edge_hi {E : List Int} {x y0 : Int} (h : y0 ∈ E) (h0 : x < y0) : ∃ y ∈ E, x < y ∧ ∀ z ∈ E, x < z → y ≤ z := by
  obtain ⟨y, hy, h1, h2⟩ := edge_lo (E := E.map (fun z => -z)) (x := -x - 1) (y0 := -y0) (List.mem_map.mpr ⟨y0, h, rfl⟩) (by omega)
  obtain ⟨z, hz, rfl⟩ := List.mem_map.mp hy
  exact ⟨z, hz, by omega, fun u hu hxu => by have := h2 (-u) (List.mem_map.mpr ⟨u, hu, rfl⟩) (by omega); omega⟩
/-- the piece from an edge to the next one, of which the runs c tell its first block -/
def Piece (E : List Int) (c : List R) (r : R) : Prop := r.at_ ∈ E ∧ r.at_ + r.many ∈ E ∧ 1 ≤ r.many ∧ (∀ y ∈ E, r.at_ < y → r.at_ + r.many ≤ y) ∧ fn r.at_ c = some r.disk
theorem fn_pieces {E : List Int} {c P : List R} {p p' : Option R} (hc : Od p c) (hE : ∀ r ∈ c, r.at_ ∈ E ∧ r.at_ + r.many ∈ E) (hP : Od p' P) (h : ∀ r, r ∈ P ↔ Piece E c r) (x : Int) : fn x P = fn x c := by
  refine fn_same hP hc ?_ ?_ x
  · intro r hr x e1 e2
    obtain ⟨h1, h2, h3, h4, h5⟩ := (h r).mp hr
    obtain ⟨r', hr', f1, f2, f3⟩ := fn_mem h5
    have := h4 _ (hE r' hr').2 f2
    exact ⟨r', hr', by omega, by omega, by omega⟩
  · intro r hr x e1 e2
    obtain ⟨y, hy, a1, a2⟩ := edge_lo (hE r hr).1 e1
    obtain ⟨z, hz, b1, b2⟩ := edge_hi (hE r hr).2 e2
    have a3 := a2 _ (hE r hr).1 e1
    refine ⟨⟨y, r.disk + (y - r.at_), z - y⟩, (h _).mpr ⟨hy, ?_, by simp only; omega, ?_, fn_of hc r hr a3 (by simp only; omega)⟩, a1, by simp only; omega, by simp only; omega⟩
    · rw [show y + (z - y) = z by omega]; exact hz
    · intro u hu hyu
      simp only at hyu ⊢
      have : ¬ u ≤ x := fun hux => by have := a2 u hu hux; omega
      have := b2 u hu (by omega)
      omega
theorem pieces_od {E : List Int} {c : List R} {P : List R} (h : ∀ r ∈ P, Piece E c r) (hs : P.Pairwise (fun a b => a.at_ < b.at_)) : Od none P :=
  od_sorted (fun r hr => (h r hr).2.2.1) (fun _ e => by cases e) hs (fun a ha b hb hab => (h a ha).2.2.2.1 _ (h b hb).1 hab)
/-- the pieces in order, joined, are the runs themselves -/
theorem join_pieces {E : List Int} {c P : List R} (hc : NF none c) (hE : ∀ r ∈ c, r.at_ ∈ E ∧ r.at_ + r.many ∈ E) (h : ∀ r, r ∈ P ↔ Piece E c r) (hs : P.Pairwise (fun a b => a.at_ < b.at_)) : join P = c := by
  have ho := pieces_od (fun r hr => (h r).mp hr) hs
  exact nf_one _ _ none none (nf_join _ P none rfl ho (fun _ _ _ e => by cases e)) hc (fun x => by
    rw [fn_join x _ P none rfl ho, fn_pieces (od_of_nf hc) hE ho h x])
/-- the insertion that the reference's inner loop does -/
def insR (a : R) : List R → List R
  | [] => [a]
  | b :: t => if a.at_ < b.at_ then a :: b :: t else b :: insR a t
def srt (l : List R) : List R := l.foldl (fun acc a => insR a acc) []
theorem insR_mem {a x : R} : ∀ {l : List R}, x ∈ insR a l ↔ x = a ∨ x ∈ l
  | [] => by simp [insR]
  | b :: t => by
    simp only [insR]
    split
    · simp
    · rw [List.mem_cons, insR_mem, List.mem_cons]
      constructor
      · rintro (h | h | h) <;> simp [h]
      · rintro (h | h | h) <;> simp [h]
theorem insR_lt {a : R} : ∀ {l : List R}, l.Pairwise (fun a b => a.at_ < b.at_) → (∀ b ∈ l, b.at_ ≠ a.at_) → (insR a l).Pairwise (fun a b => a.at_ < b.at_)
  | [], _, _ => by simp [insR]
  | b :: t, h, hn => by
    have h0 := h
    rw [List.pairwise_cons] at h
    simp only [insR]
    split
    case isTrue hc =>
      rw [List.pairwise_cons]
      exact ⟨fun y hy => by
        rcases List.mem_cons.mp hy with rfl | hy
        · exact hc
        · have := h.1 y hy; omega, h0⟩
    case isFalse hc =>
      rw [List.pairwise_cons]
      refine ⟨fun y hy => ?_, insR_lt h.2 (fun y hy => hn y (by simp [hy]))⟩
      rcases insR_mem.mp hy with rfl | hy
      · have := hn b (by simp); omega
      · exact h.1 y hy
end Runs
end Go.Proofs.YtjopiepfjbnkbaaGreatDoor
/-! Walks of runs.without, valid and Cut. Conditions: none beyond each theorem's own premises. -/
namespace Go.Proofs.YtjopiepfjbnkbaaGreatDoor
open Go.RowKit
set_option linter.unusedVariables false
namespace Runs

theorem run_info : (Tryz.prog.info? 60).map (fun i => (i.zero, i.size, i.bytes)) = some (some (.agg #[.int .i64 0, .int .i64 0, .int .i64 0]), 3, 24) := by kernel_rfl
theorem R.one (l : List R) : ∀ u ∈ l.flatMap R.cells, u.oneCell' = true := by
  intro u hu
  rw [List.mem_flatMap] at hu
  obtain ⟨x, _, hu⟩ := hu
  simp only [R.cells, List.mem_cons, List.not_mem_nil, or_false] at hu
  rcases hu with rfl | rfl | rfl <;> rfl
theorem min_is {a b m : Int} (h : m = if b < a then b else a) : m = min a b := by
  rw [h]
  split <;> omega
theorem cut_take {s e : Int} {l : List R} {k : Nat} {x : R} (h : l[k]? = some x) : cutL s e (l.take (k + 1)) = cutL s e (l.take k) ++ (lo1 s x ++ hi1 e x) := by
  unfold cutL
  rw [List.take_add_one, h, List.flatMap_append]
  simp
theorem cut_len (s e : Int) (l : List R) : (cutL s e l).length ≤ 2 * l.length := by
  induction l with
  | nil => simp [cut_nil]
  | cons r t ih =>
    rw [cut_cons, List.length_append, List.length_append, List.length_cons]
    have h1 : (lo1 s r).length ≤ 1 := by unfold lo1; split <;> simp
    have h2 : (hi1 e r).length ≤ 1 := by unfold hi1; split <;> simp
    omega

set_option maxRecDepth 100000 in
set_option maxHeartbeats 3200000 in
theorem without_any (A : Option Addr) (n c : Nat) (l : List R) (s m : Int) (w : World) (hr : Rd w w.heap.size 3 A n (l.flatMap R.cells)) (hl : l.length = n) (hn : n ≤ 1099511627777) (hsm : ∀ r ∈ l, Small r) (hs0 : 0 ≤ s) (hs1 : s ≤ 1099511627776) (hm0 : 1 ≤ m) (hm1 : m ≤ 1099511627776) :
    Calls Tryz.prog 26 #[.slice A n c, .int .i64 s, .int .i64 m] w (SliceRet w 60 3 (cutL s (s + m) l).length ((cutL s (s + m) l).flatMap R.cells)) := by
  obtain ⟨ti, hti, t0, t1, t2⟩ := info_parts run_info
  have HR := Lib.hid hr
  have HL := Lib.hid hl
  have HSM := Lib.hid hsm
  obtain ⟨e, HE⟩ : ∃ e, Hid (e = s + m) := ⟨_, Lib.hid rfl⟩
  have he : s + m = e := HE.out.symm
  have S0 : Hid (Sep w w [.row 60 3 (.slice none 0 0) 0 ((cutL s e (l.take 0)).flatMap R.cells)]) := Lib.hid ((Sep.nil_ w).nilRow 60 3 none)
  rw [he]
  clear hr hl hsm
  go_enter Tryz.func26, Tryz.ntmps26
  go_wp2
  clear he
  go_loopg [7, 19] n (fun g v7 i wr => ∃ (k q : Nat) (A7 : Option Addr) (c7 : Nat), k ≤ n ∧ g = n - k ∧ i = .int .i64 (k : Int) ∧ v7 = .slice A7 q c7 ∧ q ≤ c7 ∧ q ≤ 2 * k ∧ Hid (q = (cutL s e (l.take k)).length) ∧ Sep w wr [.row 60 3 (.slice A7 q c7) q ((cutL s e (l.take k)).flatMap R.cells)])
  case atStart => exact ⟨0, 0, none, 0, Nat.zero_le _, rfl, rfl, rfl, Nat.le_refl _, Nat.le_refl _, Lib.hid rfl, S0.out⟩
  case round =>
    clear S0
    obtain ⟨k, q, A7, c7, hk, rfl, rfl, rfl, hc7, hq, HQ, hs⟩ := hrel
    have HS := Lib.hid hs
    clear hs
    by_cases hlt : k < n
    · obtain ⟨b, off, rfl, hb, hc⟩ := HR.out.at_ R.len (by omega)
      obtain ⟨x, hx⟩ : ∃ x, l[k]? = some x := ⟨_, List.getElem?_eq_getElem (by rw [HL.out]; exact hlt)⟩
      obtain ⟨d0, d1, d2⟩ := R.facts hb HS.out.below hc hx
      obtain ⟨z1, z2, z3, z4, z5, z6⟩ := HSM.out x (List.mem_of_getElem? hx)
      have HX := Lib.hid (cut_take (s := s) (e := e) hx)
      have i0 : (0 : Int) ≤ (k : Int) := by omega
      have i1 : (k : Int) < (n : Int) := by omega
      have HS1 : Hid (Sep w (wr.alloc (.cells #[.int .i64 x.at_, .int .i64 x.disk, .int .i64 x.many] 60)) [.row 60 3 (.slice A7 q c7) q ((cutL s e (l.take k)).flatMap R.cells), .cells wr.heap.size 60 x.cells]) := Lib.hid (HS.out.new 60 x.cells)
      clear hc hx
      obtain ⟨xa, xd, xm⟩ := x
      simp only at d0 d1 d2 z1 z2 z3 z4 z5 z6 HS1
      go_upto_region 6 with (fail)
      generalize wr.alloc (.cells #[.int .i64 xa, .int .i64 xd, .int .i64 xm] 60) = wo at HS1 ⊢
      generalize wr.heap.size = gb at HS1 ⊢
      clear HS d0 d1 d2
      have e0 := HS1.out.cell 1 rfl (k := 0) rfl
      have e1 := HS1.out.cell 1 rfl (k := 1) rfl
      have e2 := HS1.out.cell 1 rfl (k := 2) rfl
      simp only at e0 e1 e2
      have hes : e = s + m := HE.out
      obtain ⟨m1, HM1, hmin1⟩ := min2_ex Tryz.prog xm (s - xa)
      obtain ⟨m2, HM2, hmin2⟩ := min2_ex Tryz.prog xm (xa + xm - e)
      have HM1' := Lib.hid (min_is HM1.out)
      have HM2' := Lib.hid (min_is HM2.out)
      clear HM1 HM2
      have b1 : e ≤ 2199023255552 := by omega
      have b2 : 0 ≤ e := by omega
      clear hes
      by_cases k1 : 0 < m1
      · have hlo : Hid (lo1 s ⟨xa, xd, xm⟩ = [⟨xa, xd, m1⟩]) := Lib.hid (by unfold lo1; rw [← HM1'.out, if_pos k1])
        have hnew := Lib.hid (Rd.of_own (own_new wo 60 #[.int .i64 xa, .int .i64 xd, .int .i64 m1] 3 1 rfl (by simp [maxLen]) (Nat.le_refl _)))
        go_upto_region 9 with (at_builtin; refine wpList_append_sep (HS1.out.alloc _) 0 rfl (.tmp 32) (.tmp 39) 56 rfl 60 ti (.agg #[.int .i64 0, .int .i64 0, .int .i64 0]) 3 24 Tryz.underlying56 hti t0 t1 t2 rfl (by omega) _ q _ rfl rfl _ _ 1 1 _ rfl hnew.out (by simp [Value.oneCell']) (by simp only [maxLen]; omega) (by omega) ?_; intro A8 c8 w8 hc8 hs8 H8'; have H8 := Lib.hid H8'; clear H8')
        clear e0 e1 e2 HS1 hnew
        have e0 := H8.out.cell 1 rfl (k := 0) rfl
        have e1 := H8.out.cell 1 rfl (k := 1) rfl
        have e2 := H8.out.cell 1 rfl (k := 2) rfl
        simp only at e0 e1 e2
        by_cases k2 : 0 < m2
        · have hhi : Hid (hi1 e ⟨xa, xd, xm⟩ = [⟨xa + (xm - m2), xd + (xm - m2), m2⟩]) := Lib.hid (by unfold hi1; rw [← HM2'.out, if_pos k2])
          have b3 : m2 ≤ xm := by have := HM2'.out; omega
          obtain ⟨sk, hsk⟩ : ∃ sk, sk = xm - m2 := ⟨_, rfl⟩
          rw [← hsk] at hhi
          have b4 : 0 ≤ sk := by omega
          have b5 : sk ≤ 1099511627776 := by omega
          have hsk' : xm - m2 = sk := hsk.symm
          clear hsk
          have hnew := Lib.hid (Rd.of_own (own_new w8 60 #[.int .i64 (xa + sk), .int .i64 (xd + sk), .int .i64 m2] 3 1 rfl (by simp [maxLen]) (Nat.le_refl _)))
          go_wp2_with (at_builtin; refine wpList_append_sep (H8.out.alloc _) 0 rfl (.tmp 57) (.tmp 68) 56 rfl 60 ti (.agg #[.int .i64 0, .int .i64 0, .int .i64 0]) 3 24 Tryz.underlying56 hti t0 t1 t2 rfl (by omega) _ (q + 1) _ rfl rfl _ _ 1 1 _ rfl hnew.out (by simp [Value.oneCell']) (by simp only [maxLen]; omega) (by omega) ?_; intro A9 c9 w9 hc9 hs9 H9'; have H9 := Lib.hid H9'; clear H9')
          go_roundg (n - (k + 1))
          case measure => omega
          case rel => exact ⟨k + 1, q + 1 + 1, A9, c9, by omega, rfl, by go_num, rfl, hc9, by omega, Lib.hid (by rw [HX.out, hlo.out, hhi.out, List.length_append, ← HQ.out]; rfl), by rw [HX.out, hlo.out, hhi.out, List.flatMap_append]; have := H9.out.pick [0] (by decide) (by simp); rw [List.append_assoc] at this; exact this⟩
        · have hhi : Hid (hi1 e ⟨xa, xd, xm⟩ = []) := Lib.hid (by unfold hi1; rw [← HM2'.out, if_neg k2])
          go_wp2
          go_roundg (n - (k + 1))
          case measure => omega
          case rel => exact ⟨k + 1, q + 1, A8, c8, by omega, rfl, by go_num, rfl, hc8, by omega, Lib.hid (by rw [HX.out, hlo.out, hhi.out, List.length_append, ← HQ.out]; rfl), by rw [HX.out, hlo.out, hhi.out, List.flatMap_append]; exact H8.out.pick [0] (by decide) (by simp)⟩
      · have hlo : Hid (lo1 s ⟨xa, xd, xm⟩ = []) := Lib.hid (by unfold lo1; rw [← HM1'.out, if_neg k1])
        by_cases k2 : 0 < m2
        · have hhi : Hid (hi1 e ⟨xa, xd, xm⟩ = [⟨xa + (xm - m2), xd + (xm - m2), m2⟩]) := Lib.hid (by unfold hi1; rw [← HM2'.out, if_pos k2])
          have b3 : m2 ≤ xm := by have := HM2'.out; omega
          obtain ⟨sk, hsk⟩ : ∃ sk, sk = xm - m2 := ⟨_, rfl⟩
          rw [← hsk] at hhi
          have b4 : 0 ≤ sk := by omega
          have b5 : sk ≤ 1099511627776 := by omega
          have hsk' : xm - m2 = sk := hsk.symm
          clear hsk
          have hnew := Lib.hid (Rd.of_own (own_new wo 60 #[.int .i64 (xa + sk), .int .i64 (xd + sk), .int .i64 m2] 3 1 rfl (by simp [maxLen]) (Nat.le_refl _)))
          go_wp2_with (at_builtin; refine wpList_append_sep (HS1.out.alloc _) 0 rfl (.tmp 57) (.tmp 68) 56 rfl 60 ti (.agg #[.int .i64 0, .int .i64 0, .int .i64 0]) 3 24 Tryz.underlying56 hti t0 t1 t2 rfl (by omega) _ q _ rfl rfl _ _ 1 1 _ rfl hnew.out (by simp [Value.oneCell']) (by simp only [maxLen]; omega) (by omega) ?_; intro A9 c9 w9 hc9 hs9 H9'; have H9 := Lib.hid H9'; clear H9')
          go_roundg (n - (k + 1))
          case measure => omega
          case rel => exact ⟨k + 1, q + 1, A9, c9, by omega, rfl, by go_num, rfl, hc9, by omega, Lib.hid (by rw [HX.out, hlo.out, hhi.out, List.length_append, ← HQ.out]; rfl), by rw [HX.out, hlo.out, hhi.out, List.flatMap_append]; exact H9.out.pick [0] (by decide) (by simp)⟩
        · have hhi : Hid (hi1 e ⟨xa, xd, xm⟩ = []) := Lib.hid (by unfold hi1; rw [← HM2'.out, if_neg k2])
          go_wp2
          go_roundg (n - (k + 1))
          case measure => omega
          case rel => exact ⟨k + 1, q, A7, c7, by omega, rfl, by go_num, rfl, hc7, by omega, Lib.hid (by rw [HX.out, hlo.out, hhi.out, List.length_append, ← HQ.out]; rfl), by rw [HX.out, hlo.out, hhi.out, List.append_nil, List.append_nil]; exact HS1.out.pick [0] (by decide) (by simp)⟩
    · obtain rfl : k = n := by omega
      have hall : l.take k = l := List.take_of_length_le (by rw [HL.out]; omega)
      rw [hall] at HQ HS
      have hq' := HQ.out
      subst hq'
      go_wp2
      go_ret
      exact ⟨A7, c7, hc7, rfl, HS.out⟩

def ListRet (w : World) (l : List R) (er : Int) (e : Ending) (w' : World) : Prop := ∃ A' c', l.length ≤ c' ∧ e = .returned (.tuple #[.slice A' l.length c', .int .i64 er]) ∧ Sep w w' [.row 60 3 (.slice A' l.length c') l.length (l.flatMap R.cells)]
theorem ListRet.none_ {w w' : World} {er : Int} (h : Below w.heap.size w w') : ListRet w [] er (.returned (.tuple #[.slice none 0 0, .int .i64 er])) w' :=
  ⟨none, 0, Nat.le_refl _, rfl, ((Sep.nil_ w).later h).nilRow 60 3 none⟩
/-- valid: over runs of the call's own -/
theorem valid_any (A : Option Addr) (n c : Nat) (l : List R) (w0 w : World) (hs : Sep w0 w [.row 60 3 (.slice A n c) n (l.flatMap R.cells)]) (hc : n ≤ c) (hl : l.length = n) (hn : n ≤ 9223372036854775807) :
    Calls Tryz.prog 31 #[.slice A n c] w (ListRet w0 (if rightB l then l else []) (if rightB l then 0 else 4)) := by
  have HS := Lib.hid hs
  have HL := Lib.hid hl
  have cR := Lib.hid (right_any A n c l w (hs.rd 0 rfl) hl hn)
  clear hs hl
  cases hr : rightB l with
  | true =>
    rw [hr] at cR
    clear hr
    simp only [if_true]
    go_enter Tryz.func31, Tryz.ntmps31
    go_wp2_with fail
    refine cR.out.mono ?_; rintro en w1 ⟨rfl, hb⟩
    go_wp2
    refine bodyPost_ret (v := .tuple #[.slice A n c, .int .i64 0]) (by simp [results, Tryz.results31]) rfl ?_
    have hl := HL.out
    subst hl
    exact ⟨A, c, hc, rfl, HS.out.later hb⟩
  | false =>
    rw [hr] at cR
    clear hr
    simp only [Bool.false_eq_true, if_false]
    go_enter Tryz.func31, Tryz.ntmps31
    go_wp2_with fail
    refine cR.out.mono ?_; rintro en w1 ⟨rfl, hb⟩
    go_wp2
    refine bodyPost_ret (v := .tuple #[.slice none 0 0, .int .i64 4]) (by simp [results, Tryz.results31]) rfl ?_
    exact ListRet.none_ (HS.out.later hb).below
end Runs
end Go.Proofs.YtjopiepfjbnkbaaGreatDoor
/-! Walk of the reference's MList. Conditions: none beyond the theorem's own premises. -/
namespace Go.Proofs.YtjopiepfjbnkbaaGreatDoor
open Go.RowKit
set_option linter.unusedVariables false
namespace Runs

abbrev bm (g n : Nat) (h : Int → Option Bool) : It := .map Tryz.prog 3 (Value.int .i64) Value.bool g n h
theorem kint : KMk Tryz.prog 3 (Value.int .i64) (fun x => (Lit.int .i64 x).wf = true) := kmk_int Tryz.underlying3
theorem bz (w : World) : (zeroValue 4).run Tryz.prog w = .ok (.bool false) w := by kernel_rfl
/-- the map that holds just these keys -/
def eh (E : List Int) : Int → Option Bool := fun x => if x ∈ E then some true else none
theorem eh_cons (E : List Int) (x : Int) : mup (eh E) x true = eh (x :: E) := by
  funext y
  by_cases h : y = x
  · subst h; rw [mup_same]; simp [eh]
  · rw [mup_other _ _ h]; simp [eh, h]
theorem eh_one (x : Int) : mup mno x true = eh [x] := by
  funext y
  by_cases h : y = x
  · subst h; rw [mup_same]; simp [eh]
  · rw [mup_other _ _ h]; simp [eh, h, mno]
theorem eh_two (x y : Int) : eh [x, y] = eh [y, x] := by
  funext z
  simp only [eh, List.mem_cons, List.not_mem_nil, or_false]
  congr 1
  rw [eq_iff_iff]
  exact Or.comm
theorem eh_no {n m : Nat} (x : Int) : (if (mno (α := Bool) x).isSome = true then n else m) = m := rfl
theorem eh_not {n m : Nat} {E : List Int} {x : Int} (h : x ∉ E) : (if (eh E x).isSome = true then n else m) = m := by
  rw [if_neg]
  simp [eh, h]
theorem eh_some {E : List Int} {x : Int} : (eh E x).isSome = true ↔ x ∈ E := by
  unfold eh
  split <;> simp [*]
def Ef (E : List Int) (x : R) : List Int := (x.at_ + x.many) :: x.at_ :: E
/-- the edges -/
def Eof (r : R) (l : List R) : List Int := l.foldl Ef [r.at_ + r.many, r.at_]
theorem Eof_take {r : R} {l : List R} {k : Nat} {x : R} (h : l[k]? = some x) : Eof r (l.take (k + 1)) = (x.at_ + x.many) :: x.at_ :: Eof r (l.take k) := by
  unfold Eof
  rw [List.take_add_one, h, List.foldl_append]
  rfl
theorem mem_Ef (y : Int) : ∀ (l : List R) (E : List Int), y ∈ l.foldl Ef E ↔ y ∈ E ∨ ∃ x ∈ l, y = x.at_ ∨ y = x.at_ + x.many
  | [], E => by simp
  | a :: t, E => by
    rw [List.foldl_cons, mem_Ef y t]
    simp only [Ef, List.mem_cons]
    constructor
    · rintro ((h | h | h) | h)
      · exact .inr ⟨a, .inl rfl, .inr h⟩
      · exact .inr ⟨a, .inl rfl, .inl h⟩
      · exact .inl h
      · obtain ⟨x, hx, h⟩ := h
        exact .inr ⟨x, .inr hx, h⟩
    · rintro (h | ⟨x, rfl | hx, h⟩)
      · exact .inl (.inr (.inr h))
      · rcases h with h | h
        · exact .inl (.inr (.inl h))
        · exact .inl (.inl h)
      · exact .inr ⟨x, hx, h⟩
theorem mem_Eof {y : Int} {r : R} {l : List R} : y ∈ Eof r l ↔ (y = r.at_ + r.many ∨ y = r.at_) ∨ ∃ x ∈ l, y = x.at_ ∨ y = x.at_ + x.many := by
  unfold Eof
  rw [mem_Ef]
  simp

/-- a piece from one edge to the next -/
def IsP (E : List Int) (dk : Int → Int) (q : R) : Prop := q.at_ ∈ E ∧ q.at_ + q.many ∈ E ∧ 1 ≤ q.many ∧ (∀ y ∈ E, q.at_ < y → q.at_ + q.many ≤ y) ∧ dk q.at_ = q.disk ∧ 0 ≤ q.disk
/-- the pieces so far: those of the edges that have come -/
def Acc (E : List Int) (dk : Int → Int) (todo : List Int) (acc : List R) : Prop := (∀ q, q ∈ acc ↔ IsP E dk q ∧ q.at_ ∉ todo) ∧ (acc.map (·.at_)).Nodup
theorem acc_add {E todo : List Int} {dk : Int → Int} {acc : List R} {x v : Int} (ha : Acc E dk todo acc) (hnd : todo.Nodup) (hx : x ∈ todo) (hxE : x ∈ E) (hv : v ∈ E) (hxv : x < v) (hmin : ∀ y ∈ E, x < y → v ≤ y) (hD : 0 ≤ dk x) : Acc E dk (todo.erase x) (acc ++ [⟨x, dk x, v - x⟩]) := by
  obtain ⟨h1, h2⟩ := ha
  refine ⟨fun q => ?_, ?_⟩
  · rw [List.mem_append, List.mem_singleton, h1, hnd.mem_erase_iff]
    constructor
    · rintro (⟨a, b⟩ | rfl)
      · exact ⟨a, fun h => b h.2⟩
      · refine ⟨⟨hxE, ?_, by simp only; omega, fun y hy hxy => ?_, rfl, hD⟩, fun h => h.1 rfl⟩
        · simp only
          rw [show x + (v - x) = v by omega]
          exact hv
        · have := hmin y hy hxy
          simp only
          omega
    · rintro ⟨⟨a1, a2, a3, a4, a5, a6⟩, b⟩
      by_cases hq : q.at_ = x
      · right
        have e1 := hmin _ a2 (by omega)
        have e2 := a4 v hv (by omega)
        obtain ⟨qa, qd, qm⟩ := q
        simp only at hq a5 e1 e2 a3
        subst hq
        rw [a5, show qm = v - qa by omega]
      · exact .inl ⟨⟨a1, a2, a3, a4, a5, a6⟩, fun h => b ⟨hq, h⟩⟩
  · rw [List.map_append, List.map_singleton]
    refine List.nodup_append.2 ⟨h2, by simp, fun a ha b hb e => ?_⟩
    simp only [List.mem_singleton] at hb
    subst hb e
    obtain ⟨q, hq, rfl⟩ := List.mem_map.1 ha
    exact ((h1 q).1 hq).2 hx
theorem acc_skip {E todo : List Int} {dk : Int → Int} {acc : List R} {x : Int} (ha : Acc E dk todo acc) (hnd : todo.Nodup) (h : dk x < 0 ∨ ∀ y ∈ E, ¬ x < y) : Acc E dk (todo.erase x) acc := by
  obtain ⟨h1, h2⟩ := ha
  refine ⟨fun q => ?_, h2⟩
  rw [h1, hnd.mem_erase_iff]
  constructor
  · rintro ⟨a, b⟩
    exact ⟨a, fun h => b h.2⟩
  · rintro ⟨⟨a1, a2, a3, a4, a5, a6⟩, b⟩
    refine ⟨⟨a1, a2, a3, a4, a5, a6⟩, fun hq => b ⟨fun e => ?_, hq⟩⟩
    subst e
    rcases h with h | h
    · omega
    · exact h _ a2 (by omega)
/-- the least edge above x of those that have come -/
def To (E : List Int) (x : Int) (todo : List Int) (v : Int) : Prop := (v = 1152921504606846976 ∧ ∀ y ∈ E, x < y → y ∈ todo) ∨ (v ∈ E ∧ x < v ∧ ∀ y ∈ E, x < y → y ∉ todo → v ≤ y)
theorem to_next {E todo : List Int} {x v y : Int} (h : To E x todo v) (hnd : todo.Nodup) (hyE : y ∈ E) (hy : x < y) (hv : y < v) : To E x (todo.erase y) y := by
  refine .inr ⟨hyE, hy, fun z hz hxz hn => ?_⟩
  rw [hnd.mem_erase_iff] at hn
  by_cases e : z = y
  · omega
  · rcases h with ⟨rfl, h⟩ | ⟨_, _, h⟩
    · exact absurd ⟨e, h z hz hxz⟩ hn
    · have := h z hz hxz (fun h' => hn ⟨e, h'⟩)
      omega
theorem to_same {E todo : List Int} {x v y : Int} (h : To E x todo v) (hnd : todo.Nodup) (hb : ∀ z ∈ E, z < 1152921504606846976) (hyE : y ∈ E) (hy : ¬ x < y ∨ ¬ y < v) : To E x (todo.erase y) v := by
  rcases h with ⟨rfl, h⟩ | ⟨h0, h1, h⟩
  · have hy' : ¬ x < y := by
      rcases hy with hy | hy
      · exact hy
      · exact absurd (hb y hyE) hy
    refine .inl ⟨rfl, fun z hz hxz => ?_⟩
    rw [hnd.mem_erase_iff]
    exact ⟨fun e => hy' (e ▸ hxz), h z hz hxz⟩
  · refine .inr ⟨h0, h1, fun z hz hxz hn => ?_⟩
    rw [hnd.mem_erase_iff] at hn
    by_cases e : z = y
    · subst e
      rcases hy with hy | hy
      · exact absurd hxz hy
      · omega
    · exact h z hz hxz (fun h' => hn ⟨e, h'⟩)
def dkf (put : Bool) (r : R) (l : List R) (x : Int) : Int := if r.at_ ≤ x ∧ x < r.at_ + r.many then (if put then r.disk + x - r.at_ else -1) else mfindL x l

def ltR (a b : R) : Bool := decide (a.at_ < b.at_)
/-- what the pieces come to, sorted and joined -/
theorem mlist_plain {E : List Int} {dk : Int → Int} {acc cl : List R} (ha : Acc E dk [] acc) (hc : NF none cl) (hE : ∀ q ∈ cl, q.at_ ∈ E ∧ q.at_ + q.many ∈ E) (hf : ∀ x ∈ E, ∀ d, fn x cl = some d ↔ (dk x = d ∧ 0 ≤ d)) :
    join (Srt.isort ltR acc.length acc) = cl ∧ ∀ q ∈ Srt.isort ltR acc.length acc, IsP E dk q := by
  have hp := Srt.isort_perm ltR acc
  have hasc := Srt.isort_asc ltR (fun a b c h1 h2 => by simp [ltR] at *; omega) (fun a b h => by simp [ltR] at *; omega) acc
  generalize Srt.isort ltR acc.length acc = P at hp hasc
  have hm : ∀ q, q ∈ P ↔ IsP E dk q := fun q => by
    rw [hp.mem_iff, ha.1]
    simp
  have hnd : (P.map (·.at_)).Nodup := ((hp.map _).nodup_iff).2 ha.2
  have hlt : P.Pairwise (fun a b => a.at_ < b.at_) := by
    unfold List.Nodup at hnd
    rw [List.pairwise_map] at hnd
    refine (hnd.and hasc).imp (fun {a b} h => ?_)
    have h2 : ¬ b.at_ < a.at_ := by simpa [ltR] using h.2
    have := h.1
    omega
  refine ⟨join_pieces hc hE (fun q => ?_) hlt, fun q hq => (hm q).1 hq⟩
  rw [hm]
  constructor
  · rintro ⟨a1, a2, a3, a4, a5, a6⟩
    exact ⟨a1, a2, a3, a4, (hf _ a1 _).2 ⟨a5, a6⟩⟩
  · rintro ⟨a1, a2, a3, a4, a5⟩
    obtain ⟨a6, a7⟩ := (hf _ a1 _).1 a5
    exact ⟨a1, a2, a3, a4, a6, a7⟩
/-- neighbours joined so far -/
def Jn (cl cur : List R) (k : Nat) : Prop := (cur = [] ∧ cl = [] ∧ k = 1) ∨ ∃ pre a t, cur = pre ++ a :: t ∧ k = pre.length + 1 ∧ cl = pre ++ join (a :: t)
theorem jn_start (P : List R) : Jn (join P) P 1 := by
  cases P with
  | nil => exact .inl ⟨rfl, by rw [join], rfl⟩
  | cons a t => exact .inr ⟨[], a, t, rfl, rfl, rfl⟩
theorem jn_end {cl cur : List R} {k : Nat} (h : Jn cl cur k) (hk : ¬ k < cur.length) : cur = cl := by
  rcases h with ⟨rfl, rfl, _⟩ | ⟨pre, a, t, rfl, rfl, rfl⟩
  · rfl
  · have : t = [] := List.eq_nil_of_length_eq_zero (by rw [List.length_append, List.length_cons] at hk; omega)
    subst this
    rw [join]
theorem jn_mid {cl cur : List R} {j : Nat} {a b : R} (h : Jn cl cur (j + 1)) (ha : cur[j]? = some a) (hb : cur[j + 1]? = some b) : ∃ pre t, pre.length = j ∧ cur = pre ++ a :: b :: t ∧ cl = pre ++ join (a :: b :: t) := by
  rcases h with ⟨rfl, _, _⟩ | ⟨pre, a', t, rfl, hk, rfl⟩
  · simp at ha
  · have hj : j = pre.length := by omega
    subst hj
    rw [List.getElem?_append_right (Nat.le_refl _), Nat.sub_self] at ha
    rw [List.getElem?_append_right (by omega), Nat.add_sub_cancel_left] at hb
    simp at ha
    subst ha
    cases t with
    | nil => simp at hb
    | cons b' t =>
      simp at hb
      subst hb
      exact ⟨pre, t, rfl, rfl, rfl⟩
theorem jn_stay {cl cur : List R} {j : Nat} {a b : R} (h : Jn cl cur (j + 1)) (ha : cur[j]? = some a) (hb : cur[j + 1]? = some b) (hn : ¬ (a.at_ + a.many = b.at_ ∧ a.disk + a.many = b.disk)) : Jn cl cur (j + 2) := by
  obtain ⟨pre, t, rfl, rfl, rfl⟩ := jn_mid h ha hb
  exact .inr ⟨pre ++ [a], b, t, by simp, by simp, by rw [join, if_neg hn]; simp⟩
theorem jn_join {cl cur : List R} {j : Nat} {a b : R} (h : Jn cl cur (j + 1)) (ha : cur[j]? = some a) (hb : cur[j + 1]? = some b) (hn : a.at_ + a.many = b.at_ ∧ a.disk + a.many = b.disk) :
    Jn cl ((cur.set j ⟨a.at_, a.disk, a.many + b.many⟩).take (j + 1) ++ (cur.set j ⟨a.at_, a.disk, a.many + b.many⟩).drop (j + 2)) (j + 1) := by
  obtain ⟨pre, t, rfl, rfl, rfl⟩ := jn_mid h ha hb
  refine .inr ⟨pre, ⟨a.at_, a.disk, a.many + b.many⟩, t, ?_, rfl, by rw [join, if_pos hn]⟩
  rw [List.set_append_right _ _ (Nat.le_refl _), Nat.sub_self, List.set_cons_zero]
  rw [List.take_append, List.take_of_length_le (by omega), Nat.add_sub_cancel_left, List.drop_append, List.drop_of_length_le (by omega), show pre.length + 2 - pre.length = 2 by omega]
  simp
/-- s = append(s[:i], s[i+1:]...), s a row -/
theorem strike2_sep {P : Program} {t e : TypeId} {ti : TypeInfo} {C : Nat} (ht : P.underlying t = some (.slice e)) (hti : P.info? e = some ti) (hsize : ti.size = C) (hC0 : 0 < C)
    {w0 w : World} {L : List It} (H : Sep w0 w L) (j : Nat) {A : Option Addr} {m c i : Nat} {xs : List Value} (hj : L[j]? = some (.row e C (.slice A (m + 1) c) (m + 1) xs)) (hi : i ≤ m) (hmc : m + 1 ≤ c) (h1 : ∀ u ∈ xs, u.oneCell' = true) :
    ∃ (A2 : Option Addr) (d c2 : Nat), (∀ w, (Instr.slice t (.slice A (m + 1) c) none (some (.int .i64 (i : Int))) none).run P w = .ok (.slice A i c) w) ∧
      (∀ w, (Instr.slice t (.slice A (m + 1) c) (some (.int .i64 ((i + 1 : Nat) : Int))) none none).run P w = .ok (.slice A2 d c2) w) ∧
      ∀ W w0, Sep w0 W L → ∃ w2, (∀ ty, (Builtin.append_ #[t, t] ty #[.slice A i c, .slice A2 d c2]).run P W = .ok (.slice A m c) w2) ∧ Sep w0 w2 (L.set j (.row e C (.slice A m c) m (xs.take (i * C) ++ xs.drop ((i + 1) * C)))) := by
  have hC : ∀ w, (sizeOf e).run P w = .ok C w := size_of_info hti hsize
  have hf := from_run ht hC A (m + 1) c (i + 1) (by omega)
  obtain ⟨g, rfl⟩ := row_base (H.rowHas j hj) (by omega)
  have hxl : xs.length = (m + 1) * C := (H.rowHas j hj).1
  have hjl := (List.getElem?_eq_some_iff.1 hj).1
  refine ⟨fromAddr (some ⟨g, 0, none⟩) c (i + 1) C, m - i, c - (i + 1), upto_run ht hC _ _ _ _ (by omega), fun w => by have := hf w; rw [show m + 1 - (i + 1) = m - i by omega] at this; exact this, fun W w0 HW => ?_⟩
  have hrd : Rd W W.heap.size C (fromAddr (some ⟨g, 0, none⟩) c (i + 1) C) (m - i) (xs.drop ((i + 1) * C)) := by
    have := rd_fromAddr (HW.rd j hj) (k := i + 1) (by omega) hmc
    rwa [show m + 1 - (i + 1) = m - i by omega] at this
  have HC := HW.cut j hj (m := i) (by omega)
  have hj2 : (L.set j (.row e C (.slice (some ⟨g, 0, none⟩) i c) i (xs.take (i * C))))[j]? = some (.row e C (.slice (some ⟨g, 0, none⟩) i c) i (xs.take (i * C))) := by rw [List.getElem?_set, if_pos rfl, if_pos hjl]
  rcases Nat.eq_zero_or_pos (m - i) with h0 | h0
  · obtain rfl : i = m := by omega
    refine ⟨W, fun ty => by rw [Nat.sub_self]; exact run_append_none W ht hti _ _ _ _ _ (by omega), ?_⟩
    rw [List.drop_of_length_le (by omega), List.append_nil]
    exact HC
  · obtain ⟨b, off, hA, hb, hcc⟩ := hrd.2 h0
    rw [hA] at hrd ⊢
    obtain ⟨w2, h2, h3⟩ := run_append_room_sep (P := P) HC j t t e ti C ht hti hsize hj2 _ b off (m - i) (c - (i + 1)) _ hrd h0 (fun u hu => h1 u (List.mem_of_mem_drop hu)) (by omega)
    rw [show i + (m - i) = m by omega] at h2 h3
    rw [List.set_set] at h3
    exact ⟨w2, fun ty => h2, h3⟩
theorem many_set {l : List R} {k : Nat} {x : R} (h : l[k]? = some x) (v : Int) : (l.flatMap R.cells).set (k * 3 + 2) (.int .i64 v) = (l.set k ⟨x.at_, x.disk, v⟩).flatMap R.cells := by
  induction l generalizing k with
  | nil => simp at h
  | cons y t ih =>
    cases k with
    | zero =>
      simp at h
      subst h
      rfl
    | succ k =>
      rw [List.set_cons_succ, List.flatMap_cons, List.flatMap_cons, List.set_append_right _ _ (by rw [R.len]; omega), R.len, show (k + 1) * 3 + 2 - 3 = k * 3 + 2 by omega, ih (by simpa using h)]
theorem oper_append_run {P : Program} {o : Oper} {a : Act} {w : World} {K : Act → World → Prop} {Q : Exit → Act → World → Prop} (s x : Operand) (t : TypeId) (ho : o.op = .call { callee := .builtin .append, args := #[s, x], argTypes := #[t, t] })
    (v1 v2 v' : Value) (w' : World) (hs : a.eval s = v1) (hx : a.eval x = v2) (hrun : (Builtin.append_ #[t, t] o.type #[v1, v2]).run P w = .ok v' w') (h : K (a.put o.dst v') w') : o.wp P a w K Q := by
  unfold Oper.wp execOp
  simp only [ho, resolve, invoke, builtin, Sem.run_bind, Sem.run_pure, Result.andThen_ok, List.map_toArray, List.map_cons, List.map_nil, hs, hx, hrun]
  exact h
/-- small enough -/
def Bq (q : R) : Prop := 0 ≤ q.at_ ∧ 1 ≤ q.many ∧ q.at_ + q.many ≤ 4398046511104 ∧ 0 ≤ q.disk ∧ q.disk + q.many ≤ 8796093022208
theorem bq_join {a b : R} (ha : Bq a) (hb : Bq b) (hn : a.at_ + a.many = b.at_ ∧ a.disk + a.many = b.disk) : Bq ⟨a.at_, a.disk, a.many + b.many⟩ := by
  unfold Bq at *
  simp only
  omega
theorem R.rowCells {cur : List R} {m : Nat} {y : R} (hy : cur[m]? = some y) : (cur.flatMap R.cells)[m * 3]? = some (.int .i64 y.at_) ∧ (cur.flatMap R.cells)[m * 3 + 1]? = some (.int .i64 y.disk) ∧ (cur.flatMap R.cells)[m * 3 + 2]? = some (.int .i64 y.many) :=
  ⟨flat_get R.len cur m 0 y hy (by decide), flat_get R.len cur m 1 y hy (by decide), flat_get R.len cur m 2 y hy (by decide)⟩
def MRet (w : World) (cl : List R) (e : Ending) (w' : World) : Prop := ∃ A' c', e = .returned (.tuple #[.slice A' cl.length c', .bool (rightB cl)]) ∧ Sep w w' [.row 60 3 (.slice A' cl.length c') cl.length (cl.flatMap R.cells)]

end Runs
end Go.Proofs.YtjopiepfjbnkbaaGreatDoor
/-! Runs that are right are in order; what the pieces of the cut runs must be. Conditions: none beyond each theorem's own premises. -/
namespace Go.Proofs.YtjopiepfjbnkbaaGreatDoor
open Go.RowKit
set_option linter.unusedVariables false
namespace Runs

theorem nf_of_right : ∀ (l : List R) (p : Option R), (∀ q, p = some q → Small q) → rightR p l = true → NF p l
  | [], _, _, _ => trivial
  | r :: t, p, hp, h => by
    rw [rightR, Bool.and_eq_true, Bool.and_eq_true] at h
    obtain ⟨⟨h1, h2⟩, h3⟩ := h
    have hs := small_of_one h1
    refine ⟨hs.2.2.2.2.1, fun q e => ?_, nf_of_right t (some r) (fun q e => by cases e; exact hs) h3⟩
    subst e
    obtain ⟨q1, q2, q3, q4, q5, q6⟩ := hp q rfl
    simp only [chk, contB, wrap_small q1 q2 q5 q6, wrap_small q3 q4 q5 q6, Bool.and_eq_true, Bool.not_eq_true', decide_eq_false_iff_not, Bool.and_eq_false_iff] at h2
    obtain ⟨h4, h5⟩ := h2
    refine ⟨by omega, fun ⟨e1, e2⟩ => ?_⟩
    rcases h5 with h5 | h5
    · exact h5 e1.symm
    · exact h5 e2.symm
theorem nf_len_ : ∀ (l : List R) (q : R), NF (some q) l → (∀ r ∈ l, Small r) → 1 ≤ q.many → l ≠ [] → q.at_ + (l.length : Int) ≤ 1099511627776
  | [], _, _, _, _, h => absurd rfl h
  | r :: t, q, ⟨h1, h2, h3⟩, hs, hq, _ => by
    have e1 := (h2 q rfl).1
    have e2 := hs r (by simp)
    have e3 := e2.2.1
    by_cases ht : t = []
    · subst ht
      simp only [List.length_cons, List.length_nil]
      omega
    · have := nf_len_ t r h3 (fun y hy => hs y (by simp [hy])) h1 ht
      rw [List.length_cons]
      omega
theorem nf_len {l : List R} (h : NF none l) (hs : ∀ r ∈ l, Small r) : l.length ≤ 1099511627777 := by
  cases l with
  | nil => simp
  | cons r t =>
    have e2 := (hs r (by simp)).1
    by_cases ht : t = []
    · subst ht
      simp
    · have := nf_len_ t r h.2.2 (fun y hy => hs y (by simp [hy])) h.1 ht
      rw [List.length_cons]
      omega
theorem findL_fn (x : Int) : ∀ l : List R, findL x l = fn x l
  | [] => rfl
  | r :: t => by
    rw [findL, fn, findL_fn x t]
    split
    · congr 1; omega
    · rfl
theorem mfind_fn {x d : Int} {l : List R} (hs : ∀ r ∈ l, Small r) : fn x l = some d ↔ (mfindL x l = d ∧ 0 ≤ d) := by
  unfold mfindL
  rw [findL_fn]
  cases hf : fn x l with
  | none =>
    simp only [Option.getD_none]
    constructor
    · intro h; cases h
    · rintro ⟨h1, h2⟩; omega
  | some v =>
    have := findL_range hs (by rw [findL_fn]; exact hf)
    simp only [Option.getD_some, Option.some.injEq]
    constructor
    · intro h; omega
    · intro h; exact h.1
theorem cut_edges {s m : Int} {l : List R} {q : R} (hm : 1 ≤ m) (h : q ∈ cutL s (s + m) l) (rd : Int) : q.at_ ∈ Eof ⟨s, rd, m⟩ l ∧ q.at_ + q.many ∈ Eof ⟨s, rd, m⟩ l := by
  unfold cutL at h
  obtain ⟨r, hr, h⟩ := List.mem_flatMap.1 h
  rw [mem_Eof, mem_Eof]
  simp only
  rcases List.mem_append.1 h with h | h
  · unfold lo1 at h
    split at h
    · rename_i hc
      simp only [List.mem_singleton] at h
      subst h
      simp only
      refine ⟨.inr ⟨r, hr, .inl rfl⟩, ?_⟩
      by_cases h1 : r.many ≤ s - r.at_
      · exact .inr ⟨r, hr, .inr (by omega)⟩
      · exact .inl (.inr (by omega))
    · cases h
  · unfold hi1 at h
    split at h
    · rename_i hc
      simp only [List.mem_singleton] at h
      subst h
      simp only
      refine ⟨?_, .inr ⟨r, hr, .inr (by omega)⟩⟩
      by_cases h1 : r.many ≤ r.at_ + r.many - (s + m)
      · exact .inr ⟨r, hr, .inl (by omega)⟩
      · exact .inl (.inl (by omega))
    · cases h
theorem cut_fn {s m x d : Int} {l : List R} (hm : 1 ≤ m) (hs : ∀ r ∈ l, Small r) : fn x (cutL s (s + m) l) = some d ↔ (dkf false ⟨s, 0, m⟩ l x = d ∧ 0 ≤ d) := by
  rw [fn_cut (by omega) x l (fun r hr => (hs r hr).2.2.2.2.1)]
  unfold dkf
  simp only
  split
  · constructor
    · intro h; cases h
    · rintro ⟨h1, h2⟩; simp at h1; omega
  · exact mfind_fn hs
end Runs
end Go.Proofs.YtjopiepfjbnkbaaGreatDoor
/-! The plain law of runs with the blocks of one more: sorted and joined. Conditions: none beyond each theorem's own premises. -/
namespace Go.Proofs.YtjopiepfjbnkbaaGreatDoor
set_option linter.unusedVariables false
namespace Runs

def putL (r : R) (l : List R) : List R := cutL r.at_ (r.at_ + r.many) l ++ [r]
theorem cut_sides {s e : Int} {l : List R} {q : R} (h : q ∈ cutL s e l) : 1 ≤ q.many ∧ (q.at_ + q.many ≤ s ∨ e ≤ q.at_) := by
  unfold cutL at h
  obtain ⟨r, hr, h⟩ := List.mem_flatMap.1 h
  rcases List.mem_append.1 h with h | h
  · unfold lo1 at h
    split at h
    · simp only [List.mem_singleton] at h
      subst h
      exact ⟨by simp only; omega, .inl (by simp only; omega)⟩
    · cases h
  · unfold hi1 at h
    split at h
    · simp only [List.mem_singleton] at h
      subst h
      exact ⟨by simp only; omega, .inr (by simp only; omega)⟩
    · cases h
theorem od_pair : ∀ {l : List R} {p : Option R}, Od p l → l.Pairwise (fun a b => a.at_ + a.many ≤ b.at_)
  | [], _, _ => .nil
  | r :: t, p, h => by
    obtain ⟨_, _, h3⟩ := h
    exact List.pairwise_cons.2 ⟨fun b hb => od_mem h3 b hb, od_pair h3⟩
theorem od_of_pair : ∀ {l : List R} {p : Option R}, (∀ r ∈ l, 1 ≤ r.many) → (∀ q, p = some q → ∀ r ∈ l, q.at_ + q.many ≤ r.at_) → l.Pairwise (fun a b => a.at_ + a.many ≤ b.at_) → Od p l
  | [], _, _, _, _ => trivial
  | r :: t, p, h1, h2, h3 => by
    rw [List.pairwise_cons] at h3
    exact ⟨h1 r (by simp), fun q e => h2 q e r (by simp), od_of_pair (fun x hx => h1 x (by simp [hx])) (fun q e x hx => by cases e; exact h3.1 x hx) h3.2⟩
def Apart (a b : R) : Prop := a.at_ + a.many ≤ b.at_ ∨ b.at_ + b.many ≤ a.at_
theorem put_many {r : R} {l S : List R} (hm : 1 ≤ r.many) (hp : S.Perm (putL r l)) : ∀ q ∈ S, 1 ≤ q.many := fun q hq => by
  have := hp.mem_iff.1 hq
  unfold putL at this
  rcases List.mem_append.1 this with h | h
  · exact (cut_sides h).1
  · simp only [List.mem_singleton] at h
    subst h
    exact hm
theorem put_od {r : R} {l S : List R} (hnf : NF none l) (hm : 1 ≤ r.many) (hp : S.Perm (putL r l)) (hs : S.Pairwise (fun a b => ¬ b.at_ < a.at_)) : Od none S := by
  have h1 : (putL r l).Pairwise Apart := by
    unfold putL
    refine List.pairwise_append.2 ⟨(od_pair (od_of_nf (nf_cut (show r.at_ < r.at_ + r.many by omega) l none none hnf (by simp)))).imp fun h => .inl h, List.pairwise_singleton _ _, fun a ha b hb => ?_⟩
    simp only [List.mem_singleton] at hb
    subst hb
    rcases (cut_sides ha).2 with h | h
    · exact .inl h
    · exact .inr h
  have h2 : S.Pairwise Apart := (hp.pairwise_iff (fun {a b} h => h.elim .inr .inl)).2 h1
  have h3 := put_many hm hp
  refine od_of_pair h3 (fun q e => by cases e) ?_
  refine (h2.and hs).imp_of_mem fun {a b} ha hb hab => ?_
  rcases hab.1 with h | h
  · exact h
  · have := h3 b hb
    have := hab.2
    omega
theorem put_fn {r : R} {l S : List R} {x d : Int} (hnf : NF none l) (hsm : ∀ q ∈ l, Small q) (hm : 1 ≤ r.many) (hr0 : 0 ≤ r.disk) (hp : S.Perm (putL r l)) (hod : Od none S) : fn x (join S) = some d ↔ (dkf true r l x = d ∧ 0 ≤ d) := by
  rw [fn_join x _ S none rfl hod]
  by_cases hx : r.at_ ≤ x ∧ x < r.at_ + r.many
  · have hrS : r ∈ S := hp.mem_iff.2 (by unfold putL; simp)
    rw [fn_of hod r hrS hx.1 hx.2]
    unfold dkf
    rw [if_pos hx, if_pos rfl]
    constructor
    · intro h
      have := Option.some.inj h
      omega
    · rintro ⟨h, _⟩
      rw [← h]
      congr 1
      omega
  · have hco : Od none (cutL r.at_ (r.at_ + r.many) l) := od_of_nf (nf_cut (show r.at_ < r.at_ + r.many by omega) l none none hnf (by simp))
    have he : fn x S = some d ↔ fn x (cutL r.at_ (r.at_ + r.many) l) = some d := by
      constructor
      · intro h
        obtain ⟨q, hq, h1, h2, rfl⟩ := fn_mem h
        have := hp.mem_iff.1 hq
        unfold putL at this
        rcases List.mem_append.1 this with h3 | h3
        · exact fn_of hco q h3 h1 h2
        · simp only [List.mem_singleton] at h3
          subst h3
          exact absurd ⟨h1, h2⟩ hx
      · intro h
        obtain ⟨q, hq, h1, h2, rfl⟩ := fn_mem h
        exact fn_of hod q (hp.mem_iff.2 (by unfold putL; simp [hq])) h1 h2
    rw [he]
    have hc := cut_fn (s := r.at_) (m := r.many) (x := x) (d := d) hm hsm
    rw [hc]
    unfold dkf
    simp only
    rw [if_neg hx, if_neg hx]
theorem join_edges : ∀ (n : Nat) (L : List R), L.length = n → ∀ q ∈ join L, (∃ a ∈ L, q.at_ = a.at_) ∧ (∃ b ∈ L, q.at_ + q.many = b.at_ + b.many)
  | _, [], _, q, hq => by rw [join] at hq; cases hq
  | _, [a], _, q, hq => by
    rw [join] at hq
    simp only [List.mem_singleton] at hq
    subst hq
    exact ⟨⟨q, by simp, rfl⟩, ⟨q, by simp, rfl⟩⟩
  | 0, _ :: _ :: _, h, _, _ => by simp at h
  | n + 1, a :: b :: t, hl, q, hq => by
    rw [join] at hq
    split at hq
    case isTrue hc =>
      obtain ⟨⟨x, hx, e1⟩, ⟨y, hy, e2⟩⟩ := join_edges n (⟨a.at_, a.disk, a.many + b.many⟩ :: t) (by simpa using hl) q hq
      constructor
      · rcases List.mem_cons.1 hx with rfl | hx
        · exact ⟨a, by simp, e1⟩
        · exact ⟨x, by simp [hx], e1⟩
      · rcases List.mem_cons.1 hy with rfl | hy
        · exact ⟨b, by simp, by simp only at e2; omega⟩
        · exact ⟨y, by simp [hy], e2⟩
    case isFalse hc =>
      rcases List.mem_cons.1 hq with rfl | hq
      · exact ⟨⟨q, by simp, rfl⟩, ⟨q, by simp, rfl⟩⟩
      · obtain ⟨⟨x, hx, e1⟩, ⟨y, hy, e2⟩⟩ := join_edges n (b :: t) (by simpa using hl) q hq
        exact ⟨⟨x, by simp [hx], e1⟩, ⟨y, by simp [hy], e2⟩⟩
theorem join_len : ∀ (n : Nat) (L : List R), L.length = n → (join L).length ≤ n
  | _, [], _ => by rw [join]; simp
  | _, [a], h => by rw [join]; simp at h ⊢; omega
  | 0, _ :: _ :: _, h => by simp at h
  | n + 1, a :: b :: t, hl => by
    rw [join]
    split
    · have := join_len n (⟨a.at_, a.disk, a.many + b.many⟩ :: t) (by simpa using hl)
      omega
    · have := join_len n (b :: t) (by simpa using hl)
      simp only [List.length_cons]
      omega
theorem put_edges {r : R} {l S : List R} (hm : 1 ≤ r.many) (hp : S.Perm (putL r l)) {q : R} (hq : q ∈ join S) : q.at_ ∈ Eof r l ∧ q.at_ + q.many ∈ Eof r l := by
  have hmem : ∀ x ∈ S, x.at_ ∈ Eof r l ∧ x.at_ + x.many ∈ Eof r l := fun x hx => by
    have := hp.mem_iff.1 hx
    unfold putL at this
    rcases List.mem_append.1 this with h | h
    · exact cut_edges hm h r.disk
    · simp only [List.mem_singleton] at h
      subst h
      rw [mem_Eof, mem_Eof]
      exact ⟨.inl (.inr rfl), .inl (.inl rfl)⟩
  obtain ⟨⟨a, ha, e1⟩, ⟨b, hb, e2⟩⟩ := join_edges _ S rfl q hq
  exact ⟨by rw [e1]; exact (hmem a ha).1, by rw [e2]; exact (hmem b hb).2⟩
/-- how far a run may reach -/
def Bn (q : R) : Prop := 0 ≤ q.at_ ∧ 1 ≤ q.many ∧ q.at_ + q.many ≤ 4398046511104 ∧ 0 ≤ q.disk ∧ q.disk ≤ 4398046511104
theorem cut_bn {s e : Int} {l : List R} {q : R} (hsm : ∀ q ∈ l, Small q) (h : q ∈ cutL s e l) : Bn q := by
  unfold cutL at h
  obtain ⟨r, hr, h⟩ := List.mem_flatMap.1 h
  have h1 := hsm r hr
  unfold Small at h1
  rcases List.mem_append.1 h with h | h
  · unfold lo1 at h
    split at h
    · simp only [List.mem_singleton] at h
      subst h
      refine ⟨?_, ?_, ?_, ?_, ?_⟩ <;> (simp only; omega)
    · cases h
  · unfold hi1 at h
    split at h
    · simp only [List.mem_singleton] at h
      subst h
      refine ⟨?_, ?_, ?_, ?_, ?_⟩ <;> (simp only; omega)
    · cases h
theorem put_bn {r : R} {l S : List R} (hsm : ∀ q ∈ l, Small q) (hr : Small r) (hp : S.Perm (putL r l)) : ∀ q ∈ S, Bn q := fun q hq => by
  have := hp.mem_iff.1 hq
  unfold putL at this
  rcases List.mem_append.1 this with h | h
  · exact cut_bn hsm h
  · simp only [List.mem_singleton] at h
    subst h
    unfold Small at hr
    refine ⟨?_, ?_, ?_, ?_, ?_⟩ <;> omega

/-- where the joining stands: out, rest, all -/
def Jo (cl out rest : List R) : Prop := (out = [] ∧ cl = join rest) ∨ ∃ pre a, out = pre ++ [a] ∧ cl = pre ++ join (a :: rest)
theorem jo_first {cl rest : List R} {x : R} (h : Jo cl [] (x :: rest)) : Jo cl [x] rest := by
  rcases h with ⟨_, h⟩ | ⟨pre, a, h, _⟩
  · exact .inr ⟨[], x, rfl, h⟩
  · simp at h
theorem jo_go {cl pre rest : List R} {a x : R} (h : Jo cl (pre ++ [a]) (x :: rest)) (hc : ¬ (a.at_ + a.many = x.at_ ∧ a.disk + a.many = x.disk)) : Jo cl (pre ++ [a] ++ [x]) rest := by
  rcases h with ⟨h, _⟩ | ⟨pre', a', h, e⟩
  · simp at h
  · obtain ⟨rfl, h2⟩ := List.append_inj' h rfl
    cases h2
    refine .inr ⟨pre ++ [a], x, rfl, ?_⟩
    rw [e, join, if_neg hc]
    simp
theorem jo_join {cl pre rest : List R} {a x : R} (h : Jo cl (pre ++ [a]) (x :: rest)) (hc : a.at_ + a.many = x.at_ ∧ a.disk + a.many = x.disk) : Jo cl (pre ++ [⟨a.at_, a.disk, a.many + x.many⟩]) rest := by
  rcases h with ⟨h, _⟩ | ⟨pre', a', h, e⟩
  · simp at h
  · obtain ⟨rfl, h2⟩ := List.append_inj' h rfl
    cases h2
    refine .inr ⟨pre, _, rfl, ?_⟩
    rw [e, join, if_pos hc]
theorem jo_end {cl out : List R} (h : Jo cl out []) : out = cl := by
  rcases h with ⟨rfl, e⟩ | ⟨pre, a, rfl, e⟩
  · rw [e, join]
  · rw [e, join]
/-- what the runs with one more are -/
structure PutOk (r : R) (l cl : List R) : Prop where
  nf : NF none cl
  edges : ∀ q ∈ cl, q.at_ ∈ Eof r l ∧ q.at_ + q.many ∈ Eof r l
  fn : ∀ x d, fn x cl = some d ↔ (dkf true r l x = d ∧ 0 ≤ d)
  len : cl.length ≤ 4398046511110
end Runs
end Go.Proofs.YtjopiepfjbnkbaaGreatDoor
