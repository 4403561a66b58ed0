/-
  Plain laws: which operation the words of a line give. Conditions: none.
-/
import Derived.Test.YtgfldhdmdeeknaaGreatDoorBnB
namespace Go.Proofs.YtgfldhdmdeeknaaGreatDoor
set_option linter.unusedVariables false
namespace Bn

theorem bs_bsO (x : By) : bs x = bsO x := rfl
theorem bs_dat (x : ByteArray) : bs x.data.toList = x := by simp [bs]
theorem rdl_write {x b c : By} (h : spl 32 x = [pW, b, c]) (d : By) (hd : ∀ dt : By, c = hx dt → d = dt) : Rdl x ⟨1, bs b, bs d, 0⟩ := by
  refine ⟨.write _ _, fun o' ho => ?_⟩
  rcases words_of ho with ⟨nm, dt, rfl, hw⟩ | ⟨nm, rfl, hw⟩ | ⟨nm, rfl, hw⟩ | ⟨rfl, hw⟩ | ⟨k, rfl, h1, h2, hw⟩
  · rw [h] at hw
    simp only [List.cons.injEq, and_true, true_and] at hw
    rw [hw.1, hd _ hw.2, bs_dat, bs_dat]
  · rw [h] at hw; simp at hw
  · rw [h] at hw; simp at hw
  · rw [h] at hw; simp at hw
  · rw [h] at hw; simp at hw
theorem rdl_remove {x b : By} (h : spl 32 x = [pM, b]) : Rdl x ⟨2, bs b, e0, 0⟩ := by
  refine ⟨.remove _, fun o' ho => ?_⟩
  rcases words_of ho with ⟨nm, dt, rfl, hw⟩ | ⟨nm, rfl, hw⟩ | ⟨nm, rfl, hw⟩ | ⟨rfl, hw⟩ | ⟨k, rfl, h1, h2, hw⟩
  · rw [h] at hw; simp at hw
  · rw [h] at hw
    simp only [List.cons.injEq, and_true, true_and] at hw
    rw [hw, bs_dat]
  · rw [h] at hw
    simp only [List.cons.injEq, and_true] at hw
    exact absurd hw.1 (by decide)
  · rw [h] at hw; simp at hw
  · rw [h] at hw
    simp only [List.cons.injEq, and_true] at hw
    exact absurd hw.1 (by decide)
theorem rdl_read {x b : By} (h : spl 32 x = [pR, b]) : Rdl x ⟨3, bs b, e0, 0⟩ := by
  refine ⟨.read _, fun o' ho => ?_⟩
  rcases words_of ho with ⟨nm, dt, rfl, hw⟩ | ⟨nm, rfl, hw⟩ | ⟨nm, rfl, hw⟩ | ⟨rfl, hw⟩ | ⟨k, rfl, h1, h2, hw⟩
  · rw [h] at hw; simp at hw
  · rw [h] at hw
    simp only [List.cons.injEq, and_true] at hw
    exact absurd hw.1 (by decide)
  · rw [h] at hw
    simp only [List.cons.injEq, and_true, true_and] at hw
    rw [hw, bs_dat]
  · rw [h] at hw; simp at hw
  · rw [h] at hw
    simp only [List.cons.injEq, and_true] at hw
    exact absurd hw.1 (by decide)
theorem rdl_sync {x : By} {r : List By} (h : spl 32 x = pS :: r) : Rdl x ⟨4, e0, e0, 0⟩ := by
  refine ⟨.sync, fun o' ho => ?_⟩
  rcases words_of ho with ⟨nm, dt, rfl, hw⟩ | ⟨nm, rfl, hw⟩ | ⟨nm, rfl, hw⟩ | ⟨rfl, hw⟩ | ⟨k, rfl, h1, h2, hw⟩
  · rw [h] at hw; simp only [List.cons.injEq] at hw; exact absurd hw.1 (by decide)
  · rw [h] at hw; simp only [List.cons.injEq] at hw; exact absurd hw.1 (by decide)
  · rw [h] at hw; simp only [List.cons.injEq] at hw; exact absurd hw.1 (by decide)
  · rfl
  · rw [h] at hw; simp only [List.cons.injEq] at hw; exact absurd hw.1 (by decide)
theorem rdl_crash {x b : By} (h : spl 32 x = [pC, b]) (k : Int) (hk : ∀ v, 0 ≤ v → v ≤ 1099511627776 → b = Lib.itoa v → k = v) : Rdl x ⟨5, e0, e0, k⟩ := by
  refine ⟨.crash _, fun o' ho => ?_⟩
  rcases words_of ho with ⟨nm, dt, rfl, hw⟩ | ⟨nm, rfl, hw⟩ | ⟨nm, rfl, hw⟩ | ⟨rfl, hw⟩ | ⟨v, rfl, h1, h2, hw⟩
  · rw [h] at hw; simp at hw
  · rw [h] at hw; simp only [List.cons.injEq] at hw; exact absurd hw.1 (by decide)
  · rw [h] at hw; simp only [List.cons.injEq] at hw; exact absurd hw.1 (by decide)
  · rw [h] at hw; simp at hw
  · rw [h] at hw
    simp only [List.cons.injEq, and_true, true_and] at hw
    rw [hk v h1 h2 hw]
theorem rdl_zero {x : By} (h1 : ∀ b c, spl 32 x ≠ [pW, b, c]) (h2 : ∀ b, spl 32 x ≠ [pM, b]) (h3 : ∀ b, spl 32 x ≠ [pR, b]) (h4 : ∀ r, spl 32 x ≠ pS :: r) (h5 : ∀ b, spl 32 x ≠ [pC, b]) : Rdl x ⟨0, e0, e0, 0⟩ := by
  refine ⟨.zero, fun o' ho => ?_⟩
  exfalso
  rcases words_of ho with ⟨nm, dt, rfl, hw⟩ | ⟨nm, rfl, hw⟩ | ⟨nm, rfl, hw⟩ | ⟨rfl, hw⟩ | ⟨v, rfl, _, _, hw⟩
  · exact h1 _ _ hw
  · exact h2 _ hw
  · exact h3 _ hw
  · exact h4 _ hw
  · exact h5 _ hw
theorem hx_dec2 (c d : By) (hd : d = if c = [45] then [] else (Lib.Hx.decode c).1) : ∀ dt : By, c = hx dt → d = dt := by
  intro dt h
  rw [hd, h]
  exact hx_dec dt
/-- no word is longer than the line -/
theorem word_len (c : UInt8) : ∀ (s : By) (y : By), y ∈ spl c s → y.length ≤ s.length
  | [], y, h => by
    simp [spl] at h
    subst h
    simp
  | b :: s, y, h => by
    by_cases hb : b = c
    · subst hb
      rw [spl_at] at h
      rcases List.mem_cons.1 h with rfl | h
      · simp
      · have := word_len b s y h
        simp
        omega
    · obtain ⟨x, r, hx⟩ := spl_ne c s
      rw [spl_other hb hx] at h
      rcases List.mem_cons.1 h with rfl | h
      · have := word_len c s x (by rw [hx]; simp)
        simp
        omega
      · have := word_len c s y (by rw [hx]; simp [h])
        simp
        omega
theorem spl_count (c : UInt8) (s : By) : (spl c s).length ≤ s.length + 1 := by
  induction s with
  | nil => simp [spl]
  | cons b s ih =>
    by_cases hb : b = c
    · subst hb
      rw [spl_at]
      simp
      omega
    · obtain ⟨x, r, hx⟩ := spl_ne c s
      rw [hx] at ih
      rw [spl_other hb hx]
      simp at ih ⊢
      omega
end Bn
end Go.Proofs.YtgfldhdmdeeknaaGreatDoor
