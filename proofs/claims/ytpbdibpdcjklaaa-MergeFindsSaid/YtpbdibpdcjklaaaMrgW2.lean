/-
  Walks of the binary search, of merge.Find and of the reference's ZFind. Conditions: none.
-/
import Derived.Test.YtpbdibpdcjklaaaMrgW
namespace Go.Proofs.Ytpbdibpdcjklaaa
open Go.RowKit Go.Shelf
set_option linter.unusedVariables false
namespace Mrg

/-- where the key stands, and whether it does -/
def SearchRet (w : World) (l : List C) (key : Int) (e : Ending) (w' : World) : Prop :=
  ∃ (i : Nat) (b : Bool), e = .returned (.tuple #[.int .i64 (i : Int), .bool b]) ∧ (b = true → ∃ c, l[i]? = some c ∧ c.key = key) ∧ (b = false → ∀ c ∈ l, c.key ≠ key) ∧ Below w.heap.size w w'

set_option maxHeartbeats 3200000 in
theorem search_any (A : Option Addr) (n c : Nat) (l : List C) (key : Int) (w : World) (hr : Rd w w.heap.size 3 A n (l.flatMap C.cells)) (hl : l.length = n) (hn : n ≤ 4096) (hinc : IncTo l l.length) :
    Calls Try.prog 39 #[.slice A n c, .int .i64 key, .func (.func 40) #[] #[]] w (SearchRet w l key) := by
  have HR := Lib.hid hr
  have HL := Lib.hid hl
  have HI := Lib.hid hinc
  have eg : ∀ args w, (callFunc 40 args).run Try.prog w = .ok (.enter 40 args) w := enters_of Try.func40 (by kernel_rfl) rfl
  clear hr hl hinc
  go_enter Try.func39, Try.ntmps39
  go_wp2
  go_loopg [9, 10] n (fun g vi vj wr => ∃ (i j : Nat), i ≤ j ∧ j ≤ n ∧ g = j - i ∧ vi = .int .i64 i ∧ vj = .int .i64 j ∧ Hid (∀ m x, m < i → l[m]? = some x → x.key < key) ∧ Hid (∀ m x, j ≤ m → l[m]? = some x → key ≤ x.key) ∧ Below w.heap.size w wr)
  case atStart => exact ⟨0, n, Nat.zero_le _, Nat.le_refl _, by omega, rfl, rfl, Lib.hid (fun m x h => by omega), Lib.hid (fun m x h hx => by have := (List.getElem?_eq_some_iff.1 hx).1; rw [HL.out] at this; omega), Below.refl _ _⟩
  case round =>
    obtain ⟨i, j, hij, hjn, rfl, rfl, rfl, HLo, HHi, hB⟩ := hrel
    by_cases hlt : i < j
    · obtain ⟨b, off, rfl, hbb, hc⟩ := HR.out.at_ C.len (by omega)
      obtain ⟨h, hh⟩ : ∃ h, h = (i + j) / 2 := ⟨_, rfl⟩
      have hh1 : i ≤ h := by omega
      have hh2 : h < j := by omega
      have eh : ((i : Int) + (j : Int)) / 2 = (h : Int) := by omega
      obtain ⟨x, hx⟩ : ∃ x, l[h]? = some x := ⟨_, List.getElem?_eq_getElem (by rw [HL.out]; omega)⟩
      obtain ⟨q0, q1, q2⟩ := C.facts hbb hB hc hx
      have i0 : (0 : Int) ≤ (h : Int) := by omega
      have i1 : (h : Int) < (n : Int) := by omega
      have cK := Lib.hid (by_key x key wr)
      by_cases hk : x.key < key
      · have HN : Hid (∀ m y, m < h + 1 → l[m]? = some y → y.key < key) := Lib.hid (fun m y hm hy => by
          by_cases hmh : m = h
          · subst hmh; rw [hx] at hy; cases hy; exact hk
          · have := HI.out.lt' (show m < h by omega) hy hx; omega)
        rw [cmpI, if_pos hk] at cK
        clear hc hx hh hk
        go_wp2_with (go_at_fn 40; refine cK.out.mono ?_; rintro e w1 ⟨rfl, hb1⟩)
        go_roundg (j - (h + 1))
        case measure => omega
        case rel => exact ⟨h + 1, j, by omega, hjn, rfl, by first | rfl | go_num, rfl, HN, HHi, hB.trans (hb1.mono hB.size)⟩
      · have HN : Hid (∀ m y, h ≤ m → l[m]? = some y → key ≤ y.key) := Lib.hid (fun m y hm hy => by
          by_cases hmh : m = h
          · subst hmh; rw [hx] at hy; cases hy; omega
          · have := HI.out.lt' (show h < m by omega) hx hy; omega)
        obtain ⟨cv, hcv, hc0⟩ : ∃ cv, cmpI x.key key = cv ∧ ¬ cv < 0 := ⟨_, rfl, by rw [cmpI, if_neg hk]; split <;> omega⟩
        rw [hcv] at cK
        clear hc hx hh hk hcv
        go_wp2_with (go_at_fn 40; refine cK.out.mono ?_; rintro e w1 ⟨rfl, hb1⟩)
        go_roundg (h - i)
        case measure => omega
        case rel => exact ⟨i, h, by omega, by omega, rfl, rfl, rfl, HLo, HN, hB.trans (hb1.mono hB.size)⟩
    · obtain rfl : i = j := by omega
      by_cases hin : i < n
      · obtain ⟨b, off, rfl, hbb, hc⟩ := HR.out.at_ C.len (by omega)
        obtain ⟨x, hx⟩ : ∃ x, l[i]? = some x := ⟨_, List.getElem?_eq_getElem (by rw [HL.out]; omega)⟩
        obtain ⟨q0, q1, q2⟩ := C.facts hbb hB hc hx
        have i0 : (0 : Int) ≤ (i : Int) := by omega
        have i1 : (i : Int) < (n : Int) := by omega
        have cK := Lib.hid (by_key x key wr)
        have hge := HHi.out i x (Nat.le_refl _) hx
        by_cases hk : x.key = key
        · rw [cmpI, if_neg (by omega), if_neg (by omega)] at cK
          have HX := Lib.hid hx
          clear hc hx hge
          have HK := Lib.hid hk
          clear hk
          go_wp2_with (go_at_fn 40; refine cK.out.mono ?_; rintro e w1 ⟨rfl, hb1⟩)
          go_ret2
          exact ⟨i, true, rfl, fun _ => ⟨x, HX.out, HK.out⟩, (fun h => by cases h), hB.trans (hb1.mono hB.size)⟩
        · rw [cmpI, if_neg (by omega), if_pos (by omega)] at cK
          have HN : Hid (∀ c ∈ l, c.key ≠ key) := Lib.hid (fun y hy => by
            obtain ⟨m, hm, rfl⟩ := List.getElem_of_mem hy
            have hm' : l[m]? = some l[m] := List.getElem?_eq_getElem hm
            rcases Nat.lt_trichotomy m i with h | h | h
            · have := HLo.out m _ h hm'; omega
            · subst h; rw [hx] at hm'; cases hm'; exact hk
            · have := HI.out.lt' h hx hm'; omega)
          clear hc hx hge hk
          go_wp2_with (go_at_fn 40; refine cK.out.mono ?_; rintro e w1 ⟨rfl, hb1⟩)
          go_ret2
          exact ⟨i, false, rfl, (fun h => by cases h), fun _ => HN.out, hB.trans (hb1.mono hB.size)⟩
      · have HN : Hid (∀ c ∈ l, c.key ≠ key) := Lib.hid (fun y hy => by
          obtain ⟨m, hm, rfl⟩ := List.getElem_of_mem hy
          have := HLo.out m _ (by have := HL.out; omega) (List.getElem?_eq_getElem hm)
          omega)
        go_wp2
        go_ret2
        exact ⟨i, false, rfl, (fun h => by cases h), fun _ => HN.out, hB⟩
end Mrg
end Go.Proofs.Ytpbdibpdcjklaaa
