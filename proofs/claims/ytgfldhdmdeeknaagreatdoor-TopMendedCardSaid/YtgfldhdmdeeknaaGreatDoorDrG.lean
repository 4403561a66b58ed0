/-
  Walk of dir.Good. Conditions: none beyond the theorem's own premises.
-/
import Derived.Test.YtgfldhdmdeeknaaGreatDoorDrW
namespace Go.Proofs.YtgfldhdmdeeknaaGreatDoor
open Go.RowKit Go.Shelf
set_option linter.unusedVariables false
namespace Dr

set_option maxRecDepth 100000 in
set_option maxHeartbeats 1600000 in
theorem dgood_any (s : ByteArray) (b : Bool) (w : World) (hb : b = true ↔ GoodB s) : Calls Tryz.prog 49 #[.string s] w (Ret w (.bool b)) := by
  obtain ⟨cb, hcb⟩ : ∃ cb : Bool, cb = true ↔ ∃ x ∈ s.data.toList, badB x = true := ⟨decide (∃ x ∈ s.data.toList, badB x = true), by simp⟩
  have HG : Hid (b = true ↔ (1 ≤ s.size ∧ s.size ≤ 12 ∧ cb = false ∧ s.toList ≠ [46] ∧ s.toList ≠ [46, 46])) := Lib.hid (by
    rw [hb]
    unfold GoodB
    have h1 : (∀ x ∈ s.data.toList, x ≠ 0 ∧ x ≠ 47) ↔ cb = false := by
      constructor
      · intro h
        cases hc : cb with
        | false => rfl
        | true =>
          obtain ⟨x, hx, hxb⟩ := hcb.1 hc
          rcases (badB_iff x).1 hxb with e | e
          · exact absurd e (h x hx).1
          · exact absurd e (h x hx).2
      · intro h x hx
        constructor
        · intro e
          have := hcb.2 ⟨x, hx, (badB_iff x).2 (.inl e)⟩
          rw [h] at this; cases this
        · intro e
          have := hcb.2 ⟨x, hx, (badB_iff x).2 (.inr e)⟩
          rw [h] at this; cases this
    rw [h1, ByteArray.toList_eq])
  clear hb
  have cC := Lib.hid (fun hs => containsAny_any s cb w hs hcb)
  clear hcb
  by_cases h1 : 1 ≤ s.size
  · by_cases h2 : s.size ≤ 12
    · have cC2 := Lib.hid (cC.out (by omega))
      clear cC
      have k1 : (s.size : Int) ≥ 1 := by omega
      have k2 : (s.size : Int) ≤ 12 := by omega
      cases cb with
      | true =>
        obtain rfl : b = false := by
          cases b with
          | false => rfl
          | true => exact absurd (HG.out.1 rfl).2.2.1 (by decide)
        clear HG
        go_enter Tryz.func49, Tryz.ntmps49
        go_wp2_with fail
        refine cC2.out.mono ?_; rintro en w1 ⟨rfl, hb1⟩
        have HB1 := Lib.hid hb1
        clear hb1
        go_wp2
        go_ret
        exact Ret.mk rfl HB1.out
      | false =>
        by_cases g1 : s.toList = [46]
        · obtain rfl : b = false := by
            cases b with
            | false => rfl
            | true => exact absurd g1 (HG.out.1 rfl).2.2.2.1
          clear HG
          go_enter Tryz.func49, Tryz.ntmps49
          go_wp2_with fail
          refine cC2.out.mono ?_; rintro en w1 ⟨rfl, hb1⟩
          have HB1 := Lib.hid hb1
          clear hb1
          go_wp2
          go_ret
          exact Ret.mk rfl HB1.out
        · by_cases g2 : s.toList = [46, 46]
          · obtain rfl : b = false := by
              cases b with
              | false => rfl
              | true => exact absurd g2 (HG.out.1 rfl).2.2.2.2
            clear HG
            go_enter Tryz.func49, Tryz.ntmps49
            go_wp2_with fail
            refine cC2.out.mono ?_; rintro en w1 ⟨rfl, hb1⟩
            have HB1 := Lib.hid hb1
            clear hb1
            go_wp2
            go_ret
            exact Ret.mk rfl HB1.out
          · obtain rfl : b = true := HG.out.2 ⟨h1, h2, rfl, g1, g2⟩
            have e1 : (s.toList == [46]) = false := by simpa using g1
            have e2 : (s.toList == [46, 46]) = false := by simpa using g2
            clear HG
            go_enter Tryz.func49, Tryz.ntmps49
            go_wp2_with fail
            refine cC2.out.mono ?_; rintro en w1 ⟨rfl, hb1⟩
            have HB1 := Lib.hid hb1
            clear hb1
            go_wp2
            go_ret
            exact Ret.mk rfl HB1.out
    · obtain rfl : b = false := by
        cases b with
        | false => rfl
        | true => exact absurd (HG.out.1 rfl).2.1 h2
      have k1 : (s.size : Int) ≥ 1 := by omega
      have k2 : ¬ (s.size : Int) ≤ 12 := by omega
      clear HG cC
      go_enter Tryz.func49, Tryz.ntmps49
      go_wp2
      go_ret
      exact Ret.mk rfl (Below.refl _ _)
  · obtain rfl : b = false := by
      cases b with
      | false => rfl
      | true => exact absurd (HG.out.1 rfl).1 h1
    have k1 : ¬ (s.size : Int) ≥ 1 := by omega
    clear HG cC
    go_enter Tryz.func49, Tryz.ntmps49
    go_wp2
    go_ret
    exact Ret.mk rfl (Below.refl _ _)

end Dr
end Go.Proofs.YtgfldhdmdeeknaaGreatDoor
