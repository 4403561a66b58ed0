/-
  Walks of package twin and of its reference.
-/
import Derived.Test.YtljdfkejhgaciaaMem
import Derived.Test.YtljdfkejhgaciaaEq
import Derived.IntWalk
namespace Go.Proofs.Ytljdfkejhgaciaa
open Go.RowKit
namespace Twin

structure T where
  (w0 : Bool) (c0 d0 : Int) (w1 : Bool) (c1 d1 : Int)
def T.val (s : T) : Value := .agg #[.bool s.w0, .int .i64 s.c0, .int .i64 s.d0, .bool s.w1, .int .i64 s.c1, .int .i64 s.d1]
def okB (c : Int) : Bool := decide (0 ≤ c) && decide (c ≤ 1099511627776)
def rightB (s : T) : Bool := okB s.c0 && okB s.c1 && !(s.w0 && s.w1 && decide (s.c0 = s.c1))
def cur (s : T) : Int := if s.w0 = true ∧ (s.w1 = false ∨ s.c1 < s.c0) then 0 else if s.w1 = true then 1 else -1
def zero : T := ⟨false, 0, 0, false, 0, 0⟩
def countOf (s : T) : Int := if cur s = 0 then s.c0 else if cur s = 1 then s.c1 else 0
def dataOf (s : T) : Int := if cur s = 0 then s.d0 else s.d1
def readE (s : T) : Int × Int := if rightB s = true then (if cur s < 0 then (0, 3) else (dataOf s, 0)) else (0, 1)
def writeE (s : T) (data : Int) (broken : Bool) : T × Int :=
  if rightB s = true then
    if countOf s = 1099511627776 then (zero, 4) else
    if cur s = 0 then (if broken then ⟨s.w0, s.c0, s.d0, false, 0, 0⟩ else ⟨s.w0, s.c0, s.d0, true, countOf s + 1, data⟩, 0)
    else (if broken then ⟨false, 0, 0, s.w1, s.c1, s.d1⟩ else ⟨true, countOf s + 1, data, s.w1, s.c1, s.d1⟩, 0)
  else (zero, 1)

theorem rightB_no0 {s : T} (h : okB s.c0 = false) : rightB s = false := by simp [rightB, h]
theorem rightB_no1 {s : T} (h : okB s.c1 = false) : rightB s = false := by simp [rightB, h]

set_option maxHeartbeats 800000 in
theorem right_any (s : T) (w : World) : Calls Try.prog 25 #[s.val] w (Ret w (.bool (rightB s))) := by
  obtain ⟨w0, c0, d0, w1, c1, d1⟩ := s
  unfold T.val
  have i0 : ∀ w, (Instr.index 46 (.agg #[.bool w0, .int .i64 c0, .int .i64 d0, .bool w1, .int .i64 c1, .int .i64 d1]) (.int .i64 0)).run Try.prog w = .ok (.agg #[.bool w0, .int .i64 c0, .int .i64 d0]) w := fun _ => by kernel_rfl
  have i1 : ∀ w, (Instr.index 46 (.agg #[.bool w0, .int .i64 c0, .int .i64 d0, .bool w1, .int .i64 c1, .int .i64 d1]) (.int .i64 1)).run Try.prog w = .ok (.agg #[.bool w1, .int .i64 c1, .int .i64 d1]) w := fun _ => by kernel_rfl
  simp only
  go_enter Try.func25, Try.ntmps25
  go_wp2
  go_loopg [6] 2 (fun g i wr => ∃ k : Nat, k ≤ 2 ∧ g = 2 - k ∧ i = .int .i64 k ∧ (0 < k → okB c0 = true) ∧ (1 < k → okB c1 = true) ∧ Below w.heap.size w wr ∧ w.heap.size < wr.heap.size ∧
    wr.cell? ⟨w.heap.size, 0, none⟩ = some (.bool w0) ∧ wr.cell? ⟨w.heap.size, 1, none⟩ = some (.int .i64 c0) ∧ wr.cell? ⟨w.heap.size, 3, none⟩ = some (.bool w1) ∧ wr.cell? ⟨w.heap.size, 4, none⟩ = some (.int .i64 c1))
  case atStart => exact ⟨0, by omega, rfl, rfl, fun h => absurd h (by omega), fun h => absurd h (by omega), (Below.refl _ _).alloc (Nat.le_refl _) _, by simp, by simp, by simp, by simp, by simp⟩
  case round =>
    obtain ⟨k, hk, rfl, rfl, ho0, ho1, hB, hsz, q0, q1, q3, q4⟩ := hrel
    have hkk : k = 0 ∨ k = 1 ∨ k = 2 := by omega
    have n0 : ∀ o : Obj, (wr.alloc o).cell? ⟨w.heap.size, 0, none⟩ = some (.bool w0) := fun o => by rw [World.cell?_alloc_lt _ _ _ hsz]; exact q0
    have n1 : ∀ o : Obj, (wr.alloc o).cell? ⟨w.heap.size, 1, none⟩ = some (.int .i64 c0) := fun o => by rw [World.cell?_alloc_lt _ _ _ hsz]; exact q1
    have n3 : ∀ o : Obj, (wr.alloc o).cell? ⟨w.heap.size, 3, none⟩ = some (.bool w1) := fun o => by rw [World.cell?_alloc_lt _ _ _ hsz]; exact q3
    have n4 : ∀ o : Obj, (wr.alloc o).cell? ⟨w.heap.size, 4, none⟩ = some (.int .i64 c1) := fun o => by rw [World.cell?_alloc_lt _ _ _ hsz]; exact q4
    rcases hkk with rfl | rfl | rfl
    · clear ho0 ho1
      cases ho : okB c0 with
      | false =>
        have HO := Lib.hid ho
        have hor : c0 < 0 ∨ (¬ c0 < 0) ∧ 1099511627776 < c0 := by simp [okB] at ho; omega
        clear ho
        rcases hor with h1 | ⟨h1, h2⟩
        all_goals
          go_wp2
          go_ret
          exact Ret.mk (bool_eq (rightB_no0 HO.out).symm) (hB.alloc hB.size _)
      | true =>
        have HO := Lib.hid ho
        have hor : 0 ≤ c0 ∧ c0 ≤ 1099511627776 := by simp [okB] at ho; omega
        clear ho
        obtain ⟨h1, h2⟩ := hor
        go_wp2
        go_roundg 1
        case measure => omega
        case rel => exact ⟨1, by omega, rfl, rfl, fun _ => HO.out, fun h => absurd h (by omega), hB.alloc hB.size _, by simp; omega, n0 _, n1 _, n3 _, n4 _⟩
    · have H0 := Lib.hid (ho0 (by omega))
      clear ho0 ho1
      cases ho : okB c1 with
      | false =>
        have HO := Lib.hid ho
        have hor : c1 < 0 ∨ (¬ c1 < 0) ∧ 1099511627776 < c1 := by simp [okB] at ho; omega
        clear ho
        rcases hor with h1 | ⟨h1, h2⟩
        all_goals
          go_wp2
          go_ret
          exact Ret.mk (bool_eq (rightB_no1 HO.out).symm) (hB.alloc hB.size _)
      | true =>
        have HO := Lib.hid ho
        have hor : 0 ≤ c1 ∧ c1 ≤ 1099511627776 := by simp [okB] at ho; omega
        clear ho
        obtain ⟨h1, h2⟩ := hor
        go_wp2
        go_roundg 0
        case measure => omega
        case rel => exact ⟨2, by omega, rfl, rfl, fun _ => H0.out, fun _ => HO.out, hB.alloc hB.size _, by simp; omega, n0 _, n1 _, n3 _, n4 _⟩
    · have H0 := Lib.hid (ho0 (by omega))
      have H1 := Lib.hid (ho1 (by omega))
      clear ho0 ho1 n0 n1 n3 n4
      cases w0 <;> cases w1
      all_goals
        go_wp2
        go_ret
        exact Ret.mk (bool_eq (by rw [Bool.eq_iff_iff]; simp [rightB, H0.out, H1.out])) hB

set_option maxHeartbeats 800000 in
theorem cur_any (s : T) (w : World) : Calls Try.prog 36 #[s.val] w (Ret w (.int .i64 (cur s))) := by
  obtain ⟨w0, c0, d0, w1, c1, d1⟩ := s
  unfold T.val
  simp only
  by_cases h : c1 < c0
  all_goals
    cases w0 <;> cases w1
    all_goals
      go_enter Try.func36, Try.ntmps36
      go_wp2
      go_ret
      exact Ret.mk (int_eq (by simp [cur]; try omega)) (by repeat (first | with_reducible refine Below.setCell ?_ (by first | (simp; done) | (simp; omega)) _ | with_reducible assumption | with_reducible exact Below.refl _ _ | with_reducible refine Below.alloc ?_ (by first | omega | (simp; done) | (simp; omega)) _ | with_reducible refine Below.drew ?_))

set_option maxHeartbeats 800000 in
theorem kright_any (s : T) (w : World) : Calls Try.prog 24 #[s.val] w (Ret w (.bool (rightB s))) := by
  obtain ⟨w0, c0, d0, w1, c1, d1⟩ := s
  obtain ⟨mn, Hmn, hmn⟩ := min2_ex Try.prog c0 c1
  obtain ⟨mx, Hmx, hmx⟩ := max2_ex Try.prog c0 c1
  unfold T.val
  simp only
  go_enter Try.func24, Try.ntmps24
  go_upto_region 1 with (fail)
  go_cut [3, 4] (fun p q wc => ∃ g0 g1 : Nat, p = .pointer (some ⟨g0, 0, none⟩) ∧ q = .pointer (some ⟨g1, 0, none⟩) ∧ Below w.heap.size w wc ∧ wc.cell? ⟨g0, 0, none⟩ = some (.bool w0) ∧ wc.cell? ⟨g0, 1, none⟩ = some (.int .i64 c0) ∧
    wc.cell? ⟨g1, 0, none⟩ = some (.bool w1) ∧ wc.cell? ⟨g1, 1, none⟩ = some (.int .i64 c1))
  case first =>
    go_region
    all_goals go_wp2
    all_goals go_meet
    all_goals exact ⟨_, _, rfl, rfl, (by repeat (first | with_reducible refine Below.setCell ?_ (by first | (simp; done) | (simp; omega)) _ | with_reducible assumption | with_reducible exact Below.refl _ _ | with_reducible refine Below.alloc ?_ (by first | omega | (simp; done) | (simp; omega)) _ | with_reducible refine Below.drew ?_)), by go_simp, by go_simp, by go_simp, by go_simp⟩
  case rest =>
    obtain ⟨g0, g1, rfl, rfl, hB, q0, q1, q2, q3⟩ := hcut
    cases he : (c0 == c1)
    all_goals
      cases w0 <;> cases w1
      all_goals
        go_wp2
        all_goals go_ret
        all_goals
          have Hn := Hmn.out
          have Hx := Hmx.out
          exact Ret.mk (bool_eq (by simp at he; rw [Bool.eq_iff_iff]; simp [rightB, okB]; try omega)) hB
end Twin
end Go.Proofs.Ytljdfkejhgaciaa
