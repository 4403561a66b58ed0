/-
  Walk of space.give. Conditions: none.
-/
import Derived.Test.YtakmfjnfkjdbfaaSpL
import Derived.Test.YtakmfjnfkjdbfaaSpD
import Derived.Test.YtakmfjnfkjdbfaaInv
import Derived.Test.YtakmfjnfkjdbfaaHead
import Derived.BigRegion
namespace Go.Proofs.Ytakmfjnfkjdbfaa
open Go.RowKit
set_option linter.unusedVariables false
namespace Sp

set_option maxHeartbeats 800000 in
/-- the closure: does gap x lie behind g? -/
theorem behind_any (x g : N) (gb : Nat) (w : World) (hg : w.cell? ⟨gb, 0, none⟩ = some (.int .i64 (g.a : Int))) :
    Calls Try.prog 61 #[.agg #[.int .i64 (x.a : Int), .int .i64 (x.m : Int)], .pointer (some ⟨gb, 0, none⟩)] w (Ret w (.bool (decide (g.a < x.a)))) := by
  have hS := (Sep.nil_ w).new 50 [.int .i64 (x.a : Int), .int .i64 (x.m : Int)]
  have S0 := Lib.hid hS
  have d0 := hS.cell 0 rfl (k := 0) rfl
  have e0 := (hS.below.cell (World.block_lt_of_cell? w _ hg)).trans hg
  clear hS hg
  have key : decide ((g.a : Int) < (x.a : Int)) = decide (g.a < x.a) := by
    by_cases h : g.a < x.a
    · rw [decide_eq_true h, decide_eq_true (by omega)]
    · rw [decide_eq_false h, decide_eq_false (by omega)]
  go_enter Try.func61, Try.ntmps61
  go_wp2
  go_ret
  exact Ret.mk (by simp) S0.out.below

/-- the first place behind which g does not belong -/
def insAt (g : N) : List N → Nat
  | [] => 0
  | x :: t => if g.a < x.a then 0 else insAt g t + 1
theorem insAt_le (g : N) : ∀ l : List N, insAt g l ≤ l.length
  | [] => Nat.zero_le _
  | x :: t => by
    rw [insAt]
    split
    · exact Nat.zero_le _
    · have := insAt_le g t
      rw [List.length_cons]
      omega
theorem insAt_low (g : N) : ∀ (l : List N) (i : Nat) (x : N), i < insAt g l → l[i]? = some x → ¬ g.a < x.a
  | [], i, x, h, hx => by simp at hx
  | y :: t, 0, x, h, hx => by
    simp at hx
    subst hx
    rw [insAt] at h
    intro hlt
    rw [if_pos hlt] at h
    omega
  | y :: t, i + 1, x, h, hx => by
    rw [insAt] at h
    split at h
    · omega
    · exact insAt_low g t i x (by omega) (by simpa using hx)
theorem insAt_hit (g : N) : ∀ (l : List N) (x : N), l[insAt g l]? = some x → g.a < x.a
  | [], x, hx => by simp at hx
  | y :: t, x, hx => by
    rw [insAt] at hx
    split at hx
    · simp at hx
      subst hx
      assumption
    · exact insAt_hit g t x (by simpa using hx)
theorem ins_at (g : N) : ∀ l : List N, ins g l = l.take (insAt g l) ++ (g :: l.drop (insAt g l))
  | [] => rfl
  | x :: t => by
    rw [ins, insAt]
    split
    · rfl
    · rw [ins_at g t]
      rfl
/-- the place as slices.IndexFunc tells it -/
def insI (g : N) (l : List N) : Int := if insAt g l < l.length then (insAt g l : Int) else -1

set_option maxRecDepth 100000 in
set_option maxHeartbeats 1600000 in
theorem index_any (A : Option Addr) (n c gb : Nat) (l : List N) (g : N) (w : World) (hr : Rd w w.heap.size 2 A n (l.flatMap ncells)) (hl : l.length = n) (hn : n ≤ 9223372036854775807) (hg : w.cell? ⟨gb, 0, none⟩ = some (.int .i64 (g.a : Int))) :
    Calls Try.prog 60 #[.slice A n c, .func (.func 61) #[] #[.pointer (some ⟨gb, 0, none⟩)]] w (Ret w (.int .i64 (insI g l))) := by
  have HR := Lib.hid hr
  have HL := Lib.hid hl
  have HG := Lib.hid hg
  have hle := insAt_le g l
  rw [hl] at hle
  have HF : Hid (insI g l = if insAt g l < n then (insAt g l : Int) else -1) := Lib.hid (by rw [insI, hl])
  have HLO := Lib.hid (insAt_low g l)
  have HHI := Lib.hid (insAt_hit g l)
  generalize insI g l = out at HF ⊢
  generalize insAt g l = p at hle HF HLO HHI
  have hgb := World.block_lt_of_cell? w _ hg
  have eg := enters_of Try.func61 (by kernel_rfl) rfl
  clear hr hl hg
  go_enter Try.func60, Try.ntmps60
  go_wp2
  go_loopg [8] n (fun q i wr => ∃ (k : Nat), k ≤ n ∧ k ≤ p ∧ q = n - k ∧ i = .int .i64 k ∧ Sep w wr [])
  case atStart => exact ⟨0, Nat.zero_le _, Nat.zero_le _, rfl, rfl, Sep.nil_ w⟩
  case round =>
    obtain ⟨k, hk, hkp, rfl, rfl, hs⟩ := hrel
    have HS := Lib.hid hs
    clear hs
    by_cases hlt : k < n
    · obtain ⟨b, off, rfl, hb, hc⟩ := HR.out.at_ ncells_len (by omega)
      obtain ⟨x, hx⟩ : ∃ x, l[k]? = some x := ⟨_, List.getElem?_eq_getElem (by rw [HL.out]; exact hlt)⟩
      have d0 : wr.cell? ⟨b, off + k * 2, none⟩ = some (.int .i64 (x.a : Int)) := (HS.out.below.cell hb).trans (hc k 0 x _ hx rfl)
      have d1 : wr.cell? ⟨b, off + k * 2 + 1, none⟩ = some (.int .i64 (x.m : Int)) := (HS.out.below.cell hb).trans (hc k 1 x _ hx rfl)
      have i0 : (0 : Int) ≤ (k : Int) := by omega
      have i1 : (k : Int) < (n : Int) := by omega
      have HX := Lib.hid hx
      have cB := Lib.hid (behind_any x g gb wr ((HS.out.below.cell hgb).trans HG.out))
      clear hc hx
      by_cases hgx : g.a < x.a
      · have hpk : k = p := by
          rcases Nat.lt_or_ge k p with h | h
          · exact absurd hgx (HLO.out k x h HX.out)
          · omega
        rw [decide_eq_true hgx] at cB
        have HE : Hid ((k : Int) = out) := Lib.hid (by rw [HF.out, if_pos (by omega), hpk])
        clear hpk
        go_wp2_with fail
        refine cB.out.mono ?_; rintro en w1 ⟨rfl, hb1⟩
        have S1 := Lib.hid (HS.out.later hb1)
        go_wp2
        go_ret
        exact Ret.mk (int_eq HE.out) S1.out.below
      · have hpk : k < p := by
          rcases Nat.lt_or_ge k p with h | h
          · exact h
          · obtain rfl : k = p := by omega
            exact absurd (HHI.out x HX.out) hgx
        rw [decide_eq_false hgx] at cB
        go_wp2_with fail
        refine cB.out.mono ?_; rintro en w1 ⟨rfl, hb1⟩
        have S1 := Lib.hid (HS.out.later hb1)
        go_wp2
        go_roundg (n - (k + 1))
        case measure => omega
        case rel => exact ⟨k + 1, by omega, by omega, rfl, by go_num, S1.out⟩
    · have HE : Hid ((-1 : Int) = out) := Lib.hid (by rw [HF.out, if_neg (by omega)])
      go_wp2
      go_ret
      exact Ret.mk (int_eq HE.out) HS.out.below
end Sp
end Go.Proofs.Ytakmfjnfkjdbfaa
