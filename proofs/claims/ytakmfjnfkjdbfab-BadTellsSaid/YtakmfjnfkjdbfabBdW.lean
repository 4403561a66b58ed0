/-
  Walks of bad.Right, of the reference's ERight, of slices.Index and Contains at integers, of bad.Find and of the reference's EGood. Conditions: none.
-/
import Derived.Test.YtakmfjnfkjdbfabBdM
import Derived.Test.YtakmfjnfkjdbfabSlices
namespace Go.Proofs.Ytakmfjnfkjdbfab
open Go.RowKit
set_option linter.unusedVariables false
namespace Bd

theorem int_info : (Try.prog.info? 3).map (fun i => (i.zero, i.size, i.bytes)) = some (some (.int .i64 0), 1, 8) := by kernel_rfl
theorem drop_at {α : Type} {l : List α} {k : Nat} {x : α} (h : l[k]? = some x) : l.drop k = x :: l.drop (k + 1) := by
  obtain ⟨h1, h2⟩ := List.getElem?_eq_some_iff.1 h
  rw [List.drop_eq_getElem_cons h1, h2]
theorem int_at {w wr : World} {b off Bd k : Nat} {l : List Int} {x : Int} (hb : b < Bd) (hB : Below Bd w wr) (hc : ∀ (i j : Nat) (x : Int) (u : Value), l[i]? = some x → (icell x)[j]? = some u → w.cell? ⟨b, off + (i * 1 + j), none⟩ = some u)
    (hx : l[k]? = some x) : wr.cell? ⟨b, off + k, none⟩ = some (.int .i64 x) := (hB.cell hb).trans (by have := hc k 0 x _ hx rfl; simpa using this)

set_option maxRecDepth 100000 in
set_option maxHeartbeats 1600000 in
theorem right_is (A : Option Addr) (n c : Nat) (B : Int) (l : List Int) (w : World) (hr : Rd w w.heap.size 1 A n (l.flatMap icell)) (hl : l.length = n) (hn : n ≤ 9223372036854775807) :
    Calls Try.prog 34 #[.int .i64 B, .slice A n c] w (Ret w (.bool (rightB B l))) := by
  have HR := Lib.hid hr
  have HL := Lib.hid hl
  clear hr hl
  by_cases h0 : B < 0
  · have HE : Hid (false = rightB B l) := Lib.hid (by simp [rightB]; omega)
    go_enter Try.func34, Try.ntmps34
    go_wp2
    go_ret
    exact Ret.mk (bool_eq HE.out) (Below.refl _ _)
  by_cases h1 : 4096 < B
  · have HE : Hid (false = rightB B l) := Lib.hid (by simp [rightB]; omega)
    go_enter Try.func34, Try.ntmps34
    go_wp2
    go_ret
    exact Ret.mk (bool_eq HE.out) (Below.refl _ _)
  have HRB : Hid (rightB B l = okL B (-1) l) := Lib.hid (by
    have e1 : decide (0 ≤ B) = true := by simp; omega
    have e2 : decide (B ≤ 4096) = true := by simp; omega
    rw [rightB, e1, e2]; rfl)
  go_enter Try.func34, Try.ntmps34
  go_wp2
  go_loopg [5, 16] n (fun g v5 i wr => ∃ (k : Nat) (last : Int), k ≤ n ∧ g = n - k ∧ i = .int .i64 k ∧ v5 = .int .i64 last ∧ Hid (okL B last (l.drop k) = okL B (-1) l) ∧ Below w.heap.size w wr)
  case atStart => exact ⟨0, -1, Nat.zero_le _, rfl, rfl, rfl, Lib.hid rfl, Below.refl _ _⟩
  case round =>
    obtain ⟨k, last, hk, rfl, rfl, rfl, HO, hB⟩ := hrel
    by_cases hlt : k < n
    · obtain ⟨b, off, rfl, hb, hc⟩ := HR.out.at_ icell_len (by omega)
      obtain ⟨x, hx⟩ : ∃ x, l[k]? = some x := ⟨_, List.getElem?_eq_getElem (by rw [HL.out]; exact hlt)⟩
      have d0 := int_at hb hB hc hx
      have i0 : (0 : Int) ≤ (k : Int) := by omega
      have i1 : (k : Int) < (n : Int) := by omega
      have HS : Hid (okL B (-1) l = (decide (last < x) && decide (x < B) && okL B x (l.drop (k + 1)))) := Lib.hid (by rw [← HO.out, drop_at hx]; rfl)
      clear hc hx
      by_cases h2 : x ≤ last
      · have HE : Hid (false = rightB B l) := Lib.hid (by
          have e1 : decide (last < x) = false := by simp; omega
          rw [HRB.out, HS.out, e1]; rfl)
        go_wp2
        go_ret
        exact Ret.mk (bool_eq HE.out) hB
      by_cases h3 : B ≤ x
      · have HE : Hid (false = rightB B l) := Lib.hid (by
          have e1 : decide (x < B) = false := by simp; omega
          rw [HRB.out, HS.out, e1]; simp)
        go_wp2
        go_ret
        exact Ret.mk (bool_eq HE.out) hB
      have HO2 : Hid (okL B x (l.drop (k + 1)) = okL B (-1) l) := Lib.hid (by
        have e1 : decide (x < B) = true := by simp; omega
        have e2 : decide (last < x) = true := by simp; omega
        rw [HS.out, e1, e2]; rfl)
      go_wp2
      go_roundg (n - (k + 1))
      case measure => omega
      case rel => exact ⟨k + 1, x, by omega, rfl, by go_num, rfl, HO2, hB⟩
    · have HE : Hid (true = rightB B l) := Lib.hid (by
        rw [HRB.out, ← HO.out, List.drop_of_length_le (by rw [HL.out]; omega)]; rfl)
      go_wp2
      go_ret
      exact Ret.mk (bool_eq HE.out) hB

set_option maxRecDepth 100000 in
set_option maxHeartbeats 1600000 in
theorem eright_is (A : Option Addr) (n c : Nat) (B : Int) (l : List Int) (w : World) (hr : Rd w w.heap.size 1 A n (l.flatMap icell)) (hl : l.length = n) (hn : n ≤ 9223372036854775807) :
    Calls Try.prog 35 #[.int .i64 B, .slice A n c] w (Ret w (.bool (rightB B l))) := by
  have HR := Lib.hid hr
  have HL := Lib.hid hl
  clear hr hl
  have hstart : ∃ s : Bool, Hid (s = (decide (0 ≤ B) && decide (B ≤ 4096))) := ⟨_, Lib.hid rfl⟩
  go_enter Try.func35, Try.ntmps35
  rcases (show B < 0 ∨ (0 ≤ B ∧ 4096 < B) ∨ (0 ≤ B ∧ B ≤ 4096) by omega) with h0 | ⟨h0, h1⟩ | ⟨h0, h1⟩
  all_goals
    have HST : Hid ((decide (0 ≤ B) && decide (B ≤ 4096)) = (decide (0 ≤ B) && decide (B ≤ 4096))) := Lib.hid rfl
    go_wp2
    go_loopg [5, 6, 17] n (fun g v5 v6 i wr => ∃ (k : Nat) (last : Int) (s : Bool), k ≤ n ∧ g = n - k ∧ i = .int .i64 k ∧ v5 = .bool s ∧ v6 = .int .i64 last ∧ Hid (rightB B l = (s && okL B last (l.drop k))) ∧ Below w.heap.size w wr)
    case atStart => exact ⟨0, -1, decide (0 ≤ B) && decide (B ≤ 4096), Nat.zero_le _, rfl, rfl, by first | rfl | (simp; omega), rfl, Lib.hid rfl, Below.refl _ _⟩
    case round =>
      obtain ⟨k, last, s, hk, rfl, rfl, rfl, rfl, HO, hB⟩ := hrel
      by_cases hlt : k < n
      · obtain ⟨b, off, rfl, hb, hc⟩ := HR.out.at_ icell_len (by omega)
        obtain ⟨x, hx⟩ : ∃ x, l[k]? = some x := ⟨_, List.getElem?_eq_getElem (by rw [HL.out]; exact hlt)⟩
        have d0 := int_at hb hB hc hx
        have i0 : (0 : Int) ≤ (k : Int) := by omega
        have i1 : (k : Int) < (n : Int) := by omega
        have HS : Hid (rightB B l = (s && (decide (last < x) && decide (x < B) && okL B x (l.drop (k + 1))))) := Lib.hid (by rw [HO.out, drop_at hx]; rfl)
        clear hc hx
        cases s with
        | false =>
          have HN : Hid (rightB B l = (false && okL B x (l.drop (k + 1)))) := Lib.hid (by rw [HS.out]; rfl)
          go_wp2
          go_roundg (n - (k + 1))
          case measure => omega
          case rel => exact ⟨k + 1, x, false, by omega, rfl, by go_num, rfl, rfl, HN, hB⟩
        | true =>
          by_cases h2 : last < x
          · have HN : Hid (rightB B l = (decide (x < B) && okL B x (l.drop (k + 1)))) := Lib.hid (by
              have e1 : decide (last < x) = true := by simpa using h2
              rw [HS.out, e1]; rfl)
            go_wp2
            go_roundg (n - (k + 1))
            case measure => omega
            case rel => exact ⟨k + 1, x, decide (x < B), by omega, rfl, by go_num, rfl, rfl, HN, hB⟩
          · have HN : Hid (rightB B l = (false && okL B x (l.drop (k + 1)))) := Lib.hid (by
              have e1 : decide (last < x) = false := by simpa using h2
              rw [HS.out, e1]; rfl)
            go_wp2
            go_roundg (n - (k + 1))
            case measure => omega
            case rel => exact ⟨k + 1, x, false, by omega, rfl, by go_num, rfl, rfl, HN, hB⟩
      · have HE : Hid (s = rightB B l) := Lib.hid (by
          rw [HO.out, List.drop_of_length_le (by rw [HL.out]; omega)]; simp [okL])
        go_wp2
        go_ret
        exact Ret.mk (bool_eq HE.out) hB
end Bd
end Go.Proofs.Ytakmfjnfkjdbfab
