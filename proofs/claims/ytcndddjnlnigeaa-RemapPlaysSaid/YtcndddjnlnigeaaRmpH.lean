/-
  Walk of the reference's HPlay$1: the first place of a number. Conditions: none.
-/
import Derived.Test.YtcndddjnlnigeaaRmpW6
namespace Go.Proofs.Ytcndddjnlnigeaa
open Go.RowKit Go.Shelf
set_option linter.unusedVariables false
namespace Rmp

set_option maxHeartbeats 800000 in
theorem find_any (gv : Nat) (A : Option Addr) (c : Nat) (l : List Int) (n : Int) (w : World) (hb : Blk w gv 32 [.slice A l.length c]) (hr : Rd w w.heap.size 1 A l.length (l.flatMap icell)) (hl : l.length ≤ 4611686018427387904) :
    Calls Try.prog 39 #[.int .i64 n, .pointer (some ⟨gv, 0, none⟩)] w (Ret w (.int .i64 (firstP n l 0))) := by
  have HR := Lib.hid hr
  obtain ⟨m, hm⟩ : ∃ m, m = l.length := ⟨_, rfl⟩
  have HM := Lib.hid hm
  have cn := hb.cell (k := 0) rfl
  rw [← hm] at cn hl HR
  clear hb hr hm
  go_enter Try.func39, Try.ntmps39
  go_wp2
  go_loopg [8] m (fun g i wr => ∃ k : Nat, k ≤ m ∧ g = m - k ∧ i = .int .i64 k ∧ Hid (firstP n l 0 = firstP n (l.drop k) k) ∧ Below w.heap.size w wr)
  case atStart => exact ⟨0, by omega, rfl, rfl, Lib.hid rfl, Below.refl _ _⟩
  case round =>
    obtain ⟨k, hk, rfl, rfl, HF, hB⟩ := hrel
    by_cases hlt : k < m
    · obtain ⟨b, off, rfl, hb, hc⟩ := HR.out.2 (by omega)
      obtain ⟨x, hx⟩ : ∃ x, l[k]? = some x := ⟨_, List.getElem?_eq_getElem (by rw [← HM.out]; exact hlt)⟩
      have c0 : wr.cell? ⟨b, off + k, none⟩ = some (.int .i64 x) := (hB.cell hb).trans (hc k _ (hcell hx))
      have i0 : (0 : Int) ≤ (k : Int) := by omega
      have i1 : (k : Int) < (m : Int) := by omega
      clear hc
      by_cases hxn : x = n
      · subst hxn
        have HE : Hid (firstP x l 0 = (k : Int)) := Lib.hid (by
          rw [HF.out, List.drop_eq_getElem_cons (List.getElem?_eq_some_iff.1 hx).1, (List.getElem?_eq_some_iff.1 hx).2, firstP, if_pos rfl])
        clear hx HF
        go_wp2
        go_ret
        exact ⟨by rw [HE.out]; rfl, hB⟩
      · have HE : Hid (firstP n l 0 = firstP n (l.drop (k + 1)) (k + 1)) := Lib.hid (by
          rw [HF.out, List.drop_eq_getElem_cons (List.getElem?_eq_some_iff.1 hx).1, (List.getElem?_eq_some_iff.1 hx).2, firstP, if_neg hxn])
        clear hx HF
        go_wp2
        go_roundg (m - (k + 1))
        case measure => omega
        case rel => exact ⟨k + 1, by omega, rfl, by go_num, HE, hB⟩
    · obtain rfl : k = m := by omega
      have HE : Hid (firstP n l 0 = -1) := Lib.hid (by
        rw [HF.out, List.drop_eq_nil_of_le (by rw [HM.out]; exact Nat.le_refl _), firstP])
      clear HF
      go_wp2
      go_ret
      exact ⟨by rw [HE.out]; rfl, hB⟩
end Rmp
end Go.Proofs.Ytcndddjnlnigeaa
