/-
  Paths: walks of path.Clean, Join, Up, Within, Both, of the reference's PJoin and of slices.Equal at names. Conditions: none beyond each theorem's own premises.
-/
import Derived.Test.YtelgalhkggnkbaaDoorPtS
namespace Go.Proofs.YtelgalhkggnkbaaDoor
open Go.RowKit Go.Shelf
set_option linter.unusedVariables false
namespace Pt

/-- the value of a row that is handed back -/
theorem SliceRet.rd {w w' : World} {E C n : Nat} {xs : List Value} {A : Option Addr} {c : Nat} (h : Sep w w' [.row E C (.slice A n c) n xs]) : Rd w' w'.heap.size C A n xs := h.rd 0 rfl

set_option maxRecDepth 100000 in
theorem clean_any (s : By) (hs : s.length ≤ 1048577) (w : World) : Calls Tryd.prog 12 #[.string (bs s)] w (Ret w (.string (bs (ppath (parts s))))) := by
  have cP := Lib.hid (parts_any s hs w)
  have hsum := parts_sum s
  go_enter Tryd.func12, Tryd.ntmps12
  go_wp2_with fail
  refine cP.out.mono ?_; rintro en w1 ⟨A, c, hnc, rfl, hs1⟩
  have HS := Lib.hid hs1
  have cW := Lib.hid (whole_any A (parts s).length c (parts s) w1 (hs1.rd 0 rfl) rfl hnc (by omega))
  clear hs1 cP hnc
  generalize (parts s).length = n at HS cW ⊢
  go_wp2_with fail
  refine cW.out.mono ?_; rintro en w2 ⟨rfl, hb2⟩
  have HB := Lib.hid (HS.out.below.trans (hb2.mono HS.out.below.size))
  go_wp2
  go_ret
  exact Ret.mk rfl HB.out

/-- what Join answers -/
def jn (at_ s : By) : By := if s.head? = some 47 then ppath (parts s) else ppath (parts (at_ ++ 47 :: s))
theorem hasPrefix_slash (s : By) : Lib.hasPrefix s [47] = decide (s.head? = some 47) := by
  cases s with
  | nil => rfl
  | cons b s =>
    have e : Lib.hasPrefix (b :: s) [47] = (47 == b && ([] : By).isPrefixOf s) := rfl
    rw [e]
    by_cases h : b = 47
    · subst h; simp
    · have h2 : ¬ (47 = b) := fun e => h e.symm
      simp [h, h2]
theorem prefix_any (s : By) (w : World) : Calls Tryd.prog 19 #[.string (bs s), .string ⟨#[47]⟩] w (Ret w (.bool (decide (s.head? = some 47)))) := by
  have h := Any.strings_HasPrefix Tryd.hasPre (bs s) ⟨#[47]⟩ w
  rw [bs_data] at h
  have e : Lib.hasPrefix s (⟨#[47]⟩ : ByteArray).data.toList = decide (s.head? = some 47) := hasPrefix_slash s
  rw [e] at h
  exact h.mono fun e w' ⟨he, hw⟩ => ⟨he, by rw [hw]; exact Below.refl _ _⟩
theorem trim_any (s : By) (hs : s.length ≤ 9223372036854775807) (w : World) : Calls Tryd.prog 20 #[.string (bs s), .string ⟨#[47]⟩] w (Ret w (.string (bs (Lib.trimSuffix s [47])))) := by
  have h := Any.strings_TrimSuffix Tryd.trimSuf (bs s) ⟨#[47]⟩ w (by rw [bs_size]; exact hs)
  rw [bs_data] at h
  exact h.mono fun e w' ⟨he, hw⟩ => ⟨he, by rw [hw]; exact Below.refl _ _⟩

set_option maxRecDepth 100000 in
theorem join_path_any (at_ s : By) (hs : at_.length + s.length ≤ 1048576) (w : World) : Calls Tryd.prog 13 #[.string (bs at_), .string (bs s)] w (Ret w (.string (bs (jn at_ s)))) := by
  have cP := Lib.hid (prefix_any s w)
  have z1 : (bs at_).size + 1 ≤ 9223372036854775807 := by rw [bs_size]; omega
  have z2 : (bs at_).size + 1 + (bs s).size ≤ 9223372036854775807 := by rw [bs_size, bs_size]; omega
  have HE : Hid (bs at_ ++ ⟨#[47]⟩ ++ bs s = bs (at_ ++ 47 :: s)) := Lib.hid (by rw [bs_slash, bs_cat, bs_cat]; simp)
  by_cases h : s.head? = some 47
  · have hd : decide (s.head? = some 47) = true := by simp [h]
    have HJ : Hid (jn at_ s = ppath (parts s)) := Lib.hid (by unfold jn; rw [if_pos h])
    rw [hd] at cP
    clear hd h
    have cC := Lib.hid (fun W => clean_any s (by omega) W)
    go_enter Tryd.func13, Tryd.ntmps13
    go_wp2_with fail
    refine cP.out.mono ?_; rintro en w1 ⟨rfl, hb1⟩
    have HB := Lib.hid hb1
    go_wp2_with fail
    refine (cC.out w1).mono ?_; rintro en w2 ⟨rfl, hb2⟩
    have HB2 := Lib.hid (HB.out.trans (hb2.mono HB.out.size))
    go_wp2
    go_ret
    exact Ret.mk (by rw [HJ.out]; rfl) HB2.out
  · have hd : decide (s.head? = some 47) = false := by simp [h]
    have HJ : Hid (jn at_ s = ppath (parts (at_ ++ 47 :: s))) := Lib.hid (by unfold jn; rw [if_neg h])
    rw [hd] at cP
    clear hd h
    obtain ⟨S, hS⟩ : ∃ S, S = bs at_ ++ (⟨#[47]⟩ : ByteArray) ++ bs s := ⟨_, rfl⟩
    have cC := Lib.hid (fun W => clean_any (at_ ++ 47 :: s) (by simp; omega) W)
    rw [← HE.out] at cC
    go_enter Tryd.func13, Tryd.ntmps13
    go_wp2_with fail
    refine cP.out.mono ?_; rintro en w1 ⟨rfl, hb1⟩
    have HB := Lib.hid hb1
    go_wp2_with fail
    refine (cC.out w1).mono ?_; rintro en w2 ⟨rfl, hb2⟩
    have HB2 := Lib.hid (HB.out.trans (hb2.mono HB.out.size))
    go_wp2
    go_ret
    exact Ret.mk (by rw [HJ.out]; rfl) HB2.out

set_option maxRecDepth 100000 in
set_option maxHeartbeats 1600000 in
theorem pjoin_any (at_ s : By) (hs : at_.length + s.length ≤ 1048576) (w : World) : Calls Tryd.prog 14 #[.string (bs at_), .string (bs s)] w (Ret w (.string (bs (jn at_ s)))) := by
  obtain ⟨sz, hsz⟩ : ∃ sz, (bs s).size = sz := ⟨_, rfl⟩
  by_cases h : s.head? = some 47
  · have HJ : Hid (jn at_ s = ppath (parts s)) := Lib.hid (by unfold jn; rw [if_pos h])
    have k0 : (0 : Int) < ((bs s).size : Int) := by
      rw [bs_size]
      cases s with
      | nil => simp at h
      | cons b s => simp <;> omega
    have hix : ∀ W, (Instr.index 9 (.string (bs s)) (.int .i64 0)).run Tryd.prog W = .ok (.int .u8 47) W := fun W => by
      rw [run_index_string W 9 (bs s) .i64 0 Tryd.underlying9, dif_pos ⟨by omega, by omega⟩]
      cases s with
      | nil => simp at h
      | cons b s =>
        simp at h
        subst h
        rfl
    have cP := Lib.hid (fun W => pparts_any s (by omega) W)
    have hsum := parts_sum s
    clear h
    go_enter Tryd.func14, Tryd.ntmps14
    go_wp2_with fail
    refine (cP.out w).mono ?_; rintro en w1 ⟨A, c, hnc, rfl, hs1⟩
    have HS := Lib.hid hs1
    have cW := Lib.hid (ppath_any A (parts s).length c (parts s) w1 (hs1.rd 0 rfl) rfl (by omega))
    clear hs1 cP hnc
    generalize (parts s).length = n at HS cW ⊢
    go_wp2_with fail
    refine cW.out.mono ?_; rintro en w2 ⟨rfl, hb2⟩
    have HB := Lib.hid (HS.out.below.trans (hb2.mono HS.out.below.size))
    go_wp2
    go_ret
    exact Ret.mk (by rw [HJ.out]; rfl) HB.out
  · have HJ : Hid (jn at_ s = ppath (parts (ppath (parts at_) ++ 47 :: Lib.trimSuffix s [47]))) := Lib.hid (by unfold jn; rw [if_neg h, join_eq])
    have hl1 := parts_sum at_
    have hl2 := ppath_len (parts at_)
    have hl3 := trim_len s [47]
    have hsm : (ppath (parts at_) ++ 47 :: Lib.trimSuffix s [47]).length ≤ 2097160 := by simp; omega
    have hl4 := parts_sum (ppath (parts at_) ++ 47 :: Lib.trimSuffix s [47])
    have HE : Hid (bs (ppath (parts at_)) ++ ⟨#[47]⟩ ++ bs (Lib.trimSuffix s [47]) = bs (ppath (parts at_) ++ 47 :: Lib.trimSuffix s [47])) := Lib.hid (by rw [bs_slash, bs_cat, bs_cat]; simp)
    have z1 : (bs (ppath (parts at_))).size + 1 ≤ 9223372036854775807 := by rw [bs_size]; omega
    have z2 : (bs (ppath (parts at_))).size + 1 + (bs (Lib.trimSuffix s [47])).size ≤ 9223372036854775807 := by rw [bs_size, bs_size]; omega
    have cA := Lib.hid (pparts_any at_ (by omega) w)
    have cT := Lib.hid (fun W => trim_any s (by omega) W)
    have cB := Lib.hid (fun W => pparts_any (ppath (parts at_) ++ 47 :: Lib.trimSuffix s [47]) hsm W)
    rw [← HE.out] at cB
    generalize parts (ppath (parts at_) ++ 47 :: Lib.trimSuffix s [47]) = rs at HJ cB hl4
    generalize Lib.trimSuffix s [47] = ts at cT cB z2 ⊢
    have k1 : (0 : Int) ≤ ((bs s).size : Int) := by omega
    have cP1 := fun A c (W : World) (h : Rd W W.heap.size 1 A (parts at_).length ((parts at_).flatMap sc)) => ppath_any A (parts at_).length c (parts at_) W h rfl (by omega)
    have cP2 := fun A c (W : World) (h : Rd W W.heap.size 1 A rs.length (rs.flatMap sc)) => ppath_any A rs.length c rs W h rfl (by omega)
    have CP1 := Lib.hid cP1
    have CP2 := Lib.hid cP2
    clear cP1 cP2 hl1 hl2 hl3 hsm hl4
    by_cases h0 : s = []
    · have k0 : ¬ (0 : Int) < ((bs s).size : Int) := by rw [bs_size, h0]; simp
      clear h h0
      go_enter Tryd.func14, Tryd.ntmps14
      go_wp2_with fail
      refine cA.out.mono ?_; rintro en w1 ⟨A, c, hnc, rfl, hs1⟩
      have HS := Lib.hid hs1
      have cW := Lib.hid (CP1.out A c w1 (hs1.rd 0 rfl))
      clear hs1 cA hnc CP1
      generalize (parts at_).length = n at HS cW ⊢
      go_wp2_with fail
      refine cW.out.mono ?_; rintro en w2 ⟨rfl, hb2⟩
      have HB := Lib.hid (HS.out.below.trans (hb2.mono HS.out.below.size))
      clear cW hb2 HS
      go_wp2_with fail
      refine (cT.out w2).mono ?_; rintro en w3 ⟨rfl, hb3⟩
      have HB3 := Lib.hid (HB.out.trans (hb3.mono HB.out.size))
      clear hb3 cT
      go_wp2_with fail
      refine (cB.out w3).mono ?_; rintro en w4 ⟨A4, c4, hnc4, rfl, hs4⟩
      have HS4 := Lib.hid hs4
      have cW := Lib.hid (CP2.out A4 c4 w4 (hs4.rd 0 rfl))
      clear hs4 cB hnc4 CP2
      generalize rs.length = n4 at HS4 cW ⊢
      go_wp2_with fail
      refine cW.out.mono ?_; rintro en w5 ⟨rfl, hb5⟩
      have HB5 := Lib.hid (HB3.out.trans ((HS4.out.below.trans (hb5.mono HS4.out.below.size)).mono HB3.out.size))
      go_wp2
      go_ret
      exact Ret.mk (by rw [HJ.out]; rfl) HB5.out
    · have k0 : (0 : Int) < ((bs s).size : Int) := by
        rw [bs_size]
        cases s with
        | nil => exact absurd rfl h0
        | cons b s => simp <;> omega
      obtain ⟨b, hb⟩ : ∃ b : UInt8, s.head? = some b := by
        cases s with
        | nil => exact absurd rfl h0
        | cons b s => exact ⟨b, rfl⟩
      have hne : ((b.toNat : Int) == 47) = false := by
        have h1 : b ≠ 47 := fun e => h (by rw [hb, e])
        have h2 : b.toNat ≠ 47 := fun e => h1 (UInt8.toNat_inj.1 e)
        simp
        omega
      have hix : ∀ W, (Instr.index 9 (.string (bs s)) (.int .i64 0)).run Tryd.prog W = .ok (.int .u8 (b.toNat : Int)) W := fun W => by
        rw [run_index_string W 9 (bs s) .i64 0 Tryd.underlying9, dif_pos ⟨by omega, by omega⟩]
        cases s with
        | nil => simp at hb
        | cons b' s =>
          simp at hb
          subst hb
          rfl
      clear h h0 hb
      go_enter Tryd.func14, Tryd.ntmps14
      go_wp2_with fail
      refine cA.out.mono ?_; rintro en w1 ⟨A, c, hnc, rfl, hs1⟩
      have HS := Lib.hid hs1
      have cW := Lib.hid (CP1.out A c w1 (hs1.rd 0 rfl))
      clear hs1 cA hnc CP1
      generalize (parts at_).length = n at HS cW ⊢
      go_wp2_with fail
      refine cW.out.mono ?_; rintro en w2 ⟨rfl, hb2⟩
      have HB := Lib.hid (HS.out.below.trans (hb2.mono HS.out.below.size))
      clear cW hb2 HS
      go_wp2_with fail
      refine (cT.out w2).mono ?_; rintro en w3 ⟨rfl, hb3⟩
      have HB3 := Lib.hid (HB.out.trans (hb3.mono HB.out.size))
      clear hb3 cT
      go_wp2_with fail
      refine (cB.out w3).mono ?_; rintro en w4 ⟨A4, c4, hnc4, rfl, hs4⟩
      have HS4 := Lib.hid hs4
      have cW := Lib.hid (CP2.out A4 c4 w4 (hs4.rd 0 rfl))
      clear hs4 cB hnc4 CP2
      generalize rs.length = n4 at HS4 cW ⊢
      go_wp2_with fail
      refine cW.out.mono ?_; rintro en w5 ⟨rfl, hb5⟩
      have HB5 := Lib.hid (HB3.out.trans ((HS4.out.below.trans (hb5.mono HS4.out.below.size)).mono HB3.out.size))
      go_wp2
      go_ret
      exact Ret.mk (by rw [HJ.out]; rfl) HB5.out

set_option maxHeartbeats 1600000 in
theorem equal_names (A A' : Option Addr) (n c c' : Nat) (l : List By) (w : World) (hr : Rd w w.heap.size 1 A n (l.flatMap sc)) (hr' : Rd w w.heap.size 1 A' n (l.flatMap sc)) (hl : l.length = n) (hn : n ≤ 9223372036854775807) :
    Calls Tryd.prog 10 #[.slice A n c, .slice A' n c'] w (Ret w (.bool true)) := by
  have HR := Lib.hid hr
  have HR' := Lib.hid hr'
  have HL := Lib.hid hl
  clear hr hr' hl
  go_enter Tryd.func10, Tryd.ntmps10
  go_wp2
  go_loopg [13] n (fun g i wr => ∃ k : Nat, k ≤ n ∧ g = n - k ∧ i = .int .i64 k ∧ Below w.heap.size w wr)
  case atStart => exact ⟨0, Nat.zero_le _, rfl, rfl, Below.refl _ _⟩
  case round =>
    obtain ⟨k, hk, rfl, rfl, hB⟩ := hrel
    by_cases hlt : k < n
    · obtain ⟨b, off, rfl, hb, hc⟩ := HR.out.at_ sc_len (by omega)
      obtain ⟨b', off', rfl, hb', hc'⟩ := HR'.out.at_ sc_len (by omega)
      obtain ⟨y, hy⟩ : ∃ y, l[k]? = some y := ⟨_, List.getElem?_eq_getElem (by rw [HL.out]; exact hlt)⟩
      have d1 : wr.cell? ⟨b, off + k, none⟩ = some (.string (bs y)) := (hB.cell (p := ⟨b, off + k, none⟩) hb).trans (by simpa using hc k 0 y _ hy rfl)
      have d2 : wr.cell? ⟨b', off' + k, none⟩ = some (.string (bs y)) := (hB.cell (p := ⟨b', off' + k, none⟩) hb').trans (by simpa using hc' k 0 y _ hy rfl)
      have E : ((bs y).toList == (bs y).toList) = true := by simp
      have i0 : (0 : Int) ≤ (k : Int) := by omega
      have i1 : (k : Int) < (n : Int) := by omega
      clear hc hc' hy
      go_wp2
      go_quiet (fail)
      go_wp2
      generalize hxw : World.drewN wr _ = xw
      have xh : Below wr.heap.size wr xw := by rw [← hxw]; exact below_drewN (Below.refl _ _) _
      clear hxw
      go_roundg (n - (k + 1))
      case measure => omega
      case rel => exact ⟨k + 1, by omega, rfl, by go_num, hB.trans (xh.mono hB.size)⟩
    · go_wp2
      go_ret
      exact Ret.mk rfl hB
end Pt
end Go.Proofs.YtelgalhkggnkbaaDoor
