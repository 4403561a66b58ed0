/-
  Walks of package runs, third part: runs.Find.
-/
import Derived.Test.YtjopiepfjbnkbaaGreatDoorRunsB
namespace Go.Proofs.YtjopiepfjbnkbaaGreatDoor
open Go.RowKit
namespace Runs

def findE (block : Int) (l : List R) : Int × Int := if rightB l then (match findL block l with | some d => (d, 0) | none => (0, 3)) else (0, 1)
theorem findE_no {block : Int} {l : List R} (h : rightB l = false) : findE block l = (0, 1) := by simp [findE, h]
theorem findE_hit {block d : Int} {l : List R} (h : rightB l = true) (hf : findL block l = some d) : findE block l = (d, 0) := by simp [findE, h, hf]
theorem findE_miss {block : Int} {l : List R} (h : rightB l = true) (hf : findL block l = none) : findE block l = (0, 3) := by simp [findE, h, hf]

set_option maxHeartbeats 800000 in
theorem find_any (A : Option Addr) (n c : Nat) (l : List R) (block : Int) (w : World) (hr : Rd w w.heap.size 3 A n (l.flatMap R.cells)) (hl : l.length = n) (hn : n ≤ 9223372036854775807)
    (hb1 : -9223372036854775808 ≤ block) (hb2 : block ≤ 9223372036854775807) :
    Calls Tryz.prog 11 #[.slice A n c, .int .i64 block] w (Ret w (.tuple #[.int .i64 (findE block l).1, .int .i64 (findE block l).2])) := by
  have HR := Lib.hid hr
  have HL := Lib.hid hl
  have cR := right_any A n c l w hr hl hn
  clear hr hl
  cases hri : rightB l with
  | false =>
    have HRI := Lib.hid hri
    rw [hri] at cR
    clear hri
    go_enter Tryz.func11, Tryz.ntmps11
    go_wp2_with (go_at_call 24; refine cR.mono ?_; rintro e w1 ⟨rfl, hbw⟩)
    go_ret2
    exact Ret.mk (pair_eq (findE_no HRI.out) rfl rfl) hbw
  | true =>
    have HS := Lib.hid (small_of_right hri)
    have HRI := Lib.hid hri
    rw [hri] at cR
    clear hri
    go_enter Tryz.func11, Tryz.ntmps11
    go_wp2_with (go_at_call 24; refine cR.mono ?_; rintro e w1 ⟨rfl, hbw⟩)
    go_loopg [13] n (fun g i wr => ∃ k : Nat, k ≤ n ∧ g = n - k ∧ i = .int .i64 k ∧ Hid (findL block l = findL block (l.drop k)) ∧ Below w.heap.size w wr)
    case atStart => exact ⟨0, Nat.zero_le _, rfl, rfl, Lib.hid rfl, hbw⟩
    case round =>
      obtain ⟨k, hk, rfl, rfl, HM, hB⟩ := hrel
      by_cases hlt : k < n
      · have hn0 : 0 < n := by omega
        obtain ⟨b, off, rfl, hb, hc⟩ := HR.out.at_ R.len hn0
        obtain ⟨x, hx⟩ : ∃ x, l[k]? = some x := ⟨_, List.getElem?_eq_getElem (by rw [HL.out]; exact hlt)⟩
        obtain ⟨c0, c1, c2⟩ := R.facts hb hB hc hx
        obtain ⟨s1, s2, s3, s4, s5, s6⟩ := HS.out x (List.mem_of_getElem? hx)
        have HX := Lib.hid (drop_at hx)
        clear hc hx cR
        by_cases hit : x.at_ ≤ block ∧ block < x.at_ + x.many
        · have HF : Hid (findL block l = some (x.disk + block - x.at_)) := Lib.hid (by rw [HM.out, HX.out, findL, if_pos hit])
          obtain ⟨h1, h2⟩ := hit
          go_wp2
          go_ret2
          exact Ret.mk (pair_eq (findE_hit HRI.out HF.out) (by omega) rfl) (hB.alloc hB.size _)
        · have HF : Hid (findL block l = findL block (l.drop (k + 1))) := Lib.hid (by rw [HM.out, HX.out, findL, if_neg hit])
          have hor : block < x.at_ ∨ x.at_ + x.many ≤ block := by omega
          clear hit
          rcases hor with h1 | h1
          all_goals
            go_wp2
            go_roundg (n - (k + 1))
            case measure => omega
            case rel => exact ⟨k + 1, by omega, rfl, by go_num, HF, hB.alloc hB.size _⟩
      · go_wp2
        go_ret2
        exact Ret.mk (pair_eq (findE_miss HRI.out (by rw [HM.out, List.drop_eq_nil_of_le (by rw [HL.out]; omega)]; rfl)) rfl rfl) hB
end Runs
end Go.Proofs.YtjopiepfjbnkbaaGreatDoor
