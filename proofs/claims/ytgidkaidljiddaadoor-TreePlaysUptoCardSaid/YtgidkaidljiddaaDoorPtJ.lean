/-
  Paths: walks of path.Clean, Join, Up, Within, Both, of the reference's PJoin and of slices.Equal at names. Conditions: none beyond each theorem's own premises.
-/
import Derived.Test.YtgidkaidljiddaaDoorPtS
namespace Go.Proofs.YtgidkaidljiddaaDoor
open Go.RowKit Go.Shelf
set_option linter.unusedVariables false
namespace Pt

/-- the value of a row that is handed back -/
theorem SliceRet.rd {w w' : World} {E C n : Nat} {xs : List Value} {A : Option Addr} {c : Nat} (h : Sep w w' [.row E C (.slice A n c) n xs]) : Rd w' w'.heap.size C A n xs := h.rd 0 rfl

set_option maxRecDepth 100000 in
theorem clean_any (s : By) (hs : s.length ≤ 1048577) (w : World) : Calls Tryd.prog 18 #[.string (bs s)] w (Ret w (.string (bs (ppath (parts s))))) := by
  have cP := Lib.hid (parts_any s hs w)
  have hsum := parts_sum s
  go_enter Tryd.func18, Tryd.ntmps18
  go_wp2_with fail
  refine cP.out.mono ?_; rintro en w1 ⟨A, c, hnc, rfl, hs1⟩
  have HS := Lib.hid hs1
  have cW := Lib.hid (whole_any A (parts s).length c (parts s) w1 (hs1.rd 0 rfl) rfl hnc (by omega))
  clear hs1 cP hnc
  generalize (parts s).length = n at HS cW ⊢
  go_wp2_with fail
  refine cW.out.mono ?_; rintro en w2 ⟨rfl, hb2⟩
  have HB := Lib.hid (HS.out.below.trans (hb2.mono HS.out.below.size))
  go_wp2
  go_ret
  exact Ret.mk rfl HB.out

/-- what Join answers -/
def jn (at_ s : By) : By := if s.head? = some 47 then ppath (parts s) else ppath (parts (at_ ++ 47 :: s))
theorem hasPrefix_slash (s : By) : Lib.hasPrefix s [47] = decide (s.head? = some 47) := by
  cases s with
  | nil => rfl
  | cons b s =>
    have e : Lib.hasPrefix (b :: s) [47] = (47 == b && ([] : By).isPrefixOf s) := rfl
    rw [e]
    by_cases h : b = 47
    · subst h; simp
    · have h2 : ¬ (47 = b) := fun e => h e.symm
      simp [h, h2]
theorem prefix_any (s : By) (w : World) : Calls Tryd.prog 12 #[.string (bs s), .string ⟨#[47]⟩] w (Ret w (.bool (decide (s.head? = some 47)))) := by
  have h := Any.strings_HasPrefix Tryd.hasPre (bs s) ⟨#[47]⟩ w
  rw [bs_data] at h
  have e : Lib.hasPrefix s (⟨#[47]⟩ : ByteArray).data.toList = decide (s.head? = some 47) := hasPrefix_slash s
  rw [e] at h
  exact h.mono fun e w' ⟨he, hw⟩ => ⟨he, by rw [hw]; exact Below.refl _ _⟩
theorem trim_any (s : By) (hs : s.length ≤ 9223372036854775807) (w : World) : Calls Tryd.prog 31 #[.string (bs s), .string ⟨#[47]⟩] w (Ret w (.string (bs (Lib.trimSuffix s [47])))) := by
  have h := Any.strings_TrimSuffix Tryd.trimSuf (bs s) ⟨#[47]⟩ w (by rw [bs_size]; exact hs)
  rw [bs_data] at h
  exact h.mono fun e w' ⟨he, hw⟩ => ⟨he, by rw [hw]; exact Below.refl _ _⟩

end Pt
end Go.Proofs.YtgidkaidljiddaaDoor
