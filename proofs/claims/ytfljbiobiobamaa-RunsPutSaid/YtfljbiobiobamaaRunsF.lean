/-
  Walks of package runs, the reference's MFind.
-/
import Derived.Test.YtfljbiobiobamaaRunsW2
namespace Go.Proofs.Ytfljbiobiobamaa
open Go.RowKit
namespace Runs

def findL (block : Int) : List R → Option Int
  | [] => none
  | r :: t => if r.at_ ≤ block ∧ block < r.at_ + r.many then some (r.disk + block - r.at_) else findL block t
def Small (r : R) : Prop := 0 ≤ r.at_ ∧ r.at_ ≤ 1099511627776 ∧ 0 ≤ r.disk ∧ r.disk ≤ 1099511627776 ∧ 1 ≤ r.many ∧ r.many ≤ 1099511627776
theorem small_of_one {r : R} (h : oneB r = true) : Small r := by simp [oneB] at h; unfold Small; omega
theorem small_of_right {l : List R} (h : rightB l = true) : ∀ r ∈ l, Small r := by
  intro r hr
  obtain ⟨i, hi, rfl⟩ := List.getElem_of_mem hr
  unfold rightB at h
  rw [List.all_eq_true] at h
  have := h i (List.mem_range.2 hi)
  unfold okAt at this
  rw [List.getElem?_eq_getElem hi] at this
  simp only [Bool.and_eq_true] at this
  exact small_of_one this.1

theorem pair_eq {a b a' b' : Int} {p : Int × Int} (h : p = (a', b')) (ha : a = a') (hb : b = b') : Value.tuple #[.int .i64 a, .int .i64 b] = Value.tuple #[.int .i64 p.1, .int .i64 p.2] := by rw [h, ha, hb]

def mfindL (block : Int) (l : List R) : Int := (findL block l).getD (-1)

set_option maxHeartbeats 800000 in
theorem mfind_any (A : Option Addr) (n c : Nat) (l : List R) (block : Int) (w : World) (hr : Rd w w.heap.size 3 A n (l.flatMap R.cells)) (hl : l.length = n) (hn : n ≤ 9223372036854775807)
    (hb1 : -9223372036854775808 ≤ block) (hb2 : block ≤ 9223372036854775807) (hs : ∀ r ∈ l, Small r) :
    Calls Try.prog 41 #[.slice A n c, .int .i64 block] w (Ret w (.int .i64 (mfindL block l))) := by
  have HR := Lib.hid hr
  have HL := Lib.hid hl
  have HS := Lib.hid hs
  clear hr hl hs
  go_enter Try.func41, Try.ntmps41
  go_wp2
  go_loopg [11] n (fun g i wr => ∃ k : Nat, k ≤ n ∧ g = n - k ∧ i = .int .i64 k ∧ Hid (findL block l = findL block (l.drop k)) ∧ Below w.heap.size w wr)
  case atStart => exact ⟨0, Nat.zero_le _, rfl, rfl, Lib.hid rfl, Below.refl _ _⟩
  case round =>
    obtain ⟨k, hk, rfl, rfl, HM, hB⟩ := hrel
    by_cases hlt : k < n
    · have hn0 : 0 < n := by omega
      obtain ⟨b, off, rfl, hb, hc⟩ := HR.out.at_ R.len hn0
      obtain ⟨x, hx⟩ : ∃ x, l[k]? = some x := ⟨_, List.getElem?_eq_getElem (by rw [HL.out]; exact hlt)⟩
      obtain ⟨c0, c1, c2⟩ := R.facts hb hB hc hx
      obtain ⟨s1, s2, s3, s4, s5, s6⟩ := HS.out x (List.mem_of_getElem? hx)
      have HX := Lib.hid (drop_at hx)
      obtain ⟨wo, rfl⟩ : ∃ wo : World, wo = wr := ⟨_, rfl⟩
      have hwo := hB.size
      clear hc hx
      have q0 : ((wo.alloc (.cells #[.int .i64 x.at_, .int .i64 x.disk, .int .i64 x.many] 50)).alloc (.cells #[.int .i64 x.at_, .int .i64 x.disk, .int .i64 x.many] 50)).cell? ⟨wo.heap.size + 1, 0, none⟩ = some (.int .i64 x.at_) := by simp
      have q1 : ((wo.alloc (.cells #[.int .i64 x.at_, .int .i64 x.disk, .int .i64 x.many] 50)).alloc (.cells #[.int .i64 x.at_, .int .i64 x.disk, .int .i64 x.many] 50)).cell? ⟨wo.heap.size + 1, 1, none⟩ = some (.int .i64 x.disk) := by simp
      have q2 : ((wo.alloc (.cells #[.int .i64 x.at_, .int .i64 x.disk, .int .i64 x.many] 50)).alloc (.cells #[.int .i64 x.at_, .int .i64 x.disk, .int .i64 x.many] 50)).cell? ⟨wo.heap.size + 1, 2, none⟩ = some (.int .i64 x.many) := by simp
      have Q0 := Lib.hid q0
      have Q1 := Lib.hid q1
      have Q2 := Lib.hid q2
      clear q0 q1 q2
      go_wp2
      go_loopg [18] 1 (fun g i wi => ∃ j : Nat, j ≤ 1 ∧ g = 1 - j ∧ i = .int .i64 j ∧ (j = 1 → Hid (¬ (x.at_ ≤ block ∧ block < x.at_ + x.many))) ∧ Below w.heap.size w wi ∧ wo.heap.size + 1 < wi.heap.size ∧
        wi.cell? ⟨wo.heap.size + 1, 0, none⟩ = some (.int .i64 x.at_) ∧ wi.cell? ⟨wo.heap.size + 1, 1, none⟩ = some (.int .i64 x.disk) ∧ wi.cell? ⟨wo.heap.size + 1, 2, none⟩ = some (.int .i64 x.many))
      case atStart => exact ⟨0, by omega, rfl, rfl, fun h => absurd h (by omega), (hB.alloc hB.size _).alloc (by simp; omega) _, by simp, Q0.out, Q1.out, Q2.out⟩
      case round =>
        obtain ⟨j, hj, rfl, rfl, hno, hBi, hsz, i0, i1, i2⟩ := hrel
        by_cases hj0 : j = 0
        · obtain rfl := hj0
          clear hno
          by_cases hit : x.at_ ≤ block ∧ block < x.at_ + x.many
          · have HF : Hid (findL block l = some (x.disk + block - x.at_)) := Lib.hid (by rw [HM.out, HX.out, findL, if_pos hit])
            obtain ⟨h1, h2⟩ := hit
            go_wp2
            go_ret
            exact Ret.mk (int_eq (by unfold mfindL; rw [HF.out]; simp; omega)) (hBi.alloc hBi.size _)
          · have HN := Lib.hid hit
            have hor : block < x.at_ ∨ x.at_ + x.many ≤ block := by omega
            clear hit
            have n0 : ∀ o : Obj, (wr.alloc o).cell? ⟨wo.heap.size + 1, 0, none⟩ = some (.int .i64 x.at_) := fun o => by rw [World.cell?_alloc_lt _ _ _ hsz]; exact i0
            have n1 : ∀ o : Obj, (wr.alloc o).cell? ⟨wo.heap.size + 1, 1, none⟩ = some (.int .i64 x.disk) := fun o => by rw [World.cell?_alloc_lt _ _ _ hsz]; exact i1
            have n2 : ∀ o : Obj, (wr.alloc o).cell? ⟨wo.heap.size + 1, 2, none⟩ = some (.int .i64 x.many) := fun o => by rw [World.cell?_alloc_lt _ _ _ hsz]; exact i2
            rcases hor with h1 | h1
            all_goals
              go_wp2
              go_roundg 0
              case measure => omega
              case rel => exact ⟨1, by omega, rfl, rfl, fun _ => HN, hBi.alloc hBi.size _, by simp; omega, n0 _, n1 _, n2 _⟩
        · obtain rfl : j = 1 := by omega
          have HN := hno rfl
          have HF : Hid (findL block l = findL block (l.drop (k + 1))) := Lib.hid (by rw [HM.out, HX.out, findL, if_neg HN.out])
          clear hno hj0
          go_wp2
          go_roundg (n - (k + 1))
          case measure => omega
          case rel => exact ⟨k + 1, by omega, rfl, by go_num, HF, hBi⟩
    · go_wp2
      go_ret
      exact Ret.mk (int_eq (by unfold mfindL; rw [HM.out, List.drop_eq_nil_of_le (by rw [HL.out]; omega)]; rfl)) hB
end Runs
end Go.Proofs.Ytfljbiobiobamaa
