/-
  Walk of symMerge of the library's stable sort where the right part has one element. Conditions: none beyond each theorem's own premises.
-/
import Derived.Test.YtfljbiobiobamabStbS
namespace Go.Proofs.Ytfljbiobiobamab
open Go.RowKit
set_option linter.unusedVariables false
namespace Vic

set_option maxRecDepth 100000 in
set_option maxHeartbeats 6400000 in
theorem sym_right (A B : Option Addr) (N c n cl gl : Nat) (l : List Fm) (X U Y : List Nat) (y : Nat) (J : List It) (w0 w : World) (hE : Env w0 B n l) (hs : Sep w0 w (sR A N c (X ++ (U ++ ([y] ++ Y))) :: boxI gl B n cl :: J)) (hl : (X ++ (U ++ ([y] ++ Y))).length = N) (hN : N ≤ 4096) (hU : Stb.Srt (leB l) U) (hC : ∀ x ∈ U, Stb.Cnd (leB l) (qq l) x y) (hy : y < n) (hlt : ∀ x ∈ U, x < n) (hu : 1 < U.length) :
    Calls Try.prog 71 #[.slice A N c, .int .i64 (X.length : Int), .int .i64 ((X.length + U.length : Nat) : Int), .int .i64 ((X.length + U.length + 1 : Nat) : Int), cmpF gl] w (MRet w0 l A B N c n cl gl X U [y] Y J) := by
  have eg : ∀ args w, (callFunc 38 args).run Try.prog w = .ok (.enter 38 args) w := enters_of Try.func38 (by kernel_rfl) rfl
  have HE := Lib.hid hE
  have HS := Lib.hid hs
  have HU := Lib.hid hU
  have HC := Lib.hid hC
  have HLT := Lib.hid hlt
  have hl2 : X.length + U.length + 1 ≤ N := by rw [← hl]; simp only [List.length_append, List.length_singleton]; omega
  clear hE hs hU hC hlt hl
  obtain ⟨a, ha⟩ : ∃ a, a = X.length := ⟨_, rfl⟩
  obtain ⟨m, hm⟩ : ∃ m, m = X.length + U.length := ⟨_, rfl⟩
  obtain ⟨b, hb⟩ : ∃ b, b = X.length + U.length + 1 := ⟨_, rfl⟩
  rw [← hb, ← hm, ← ha]
  obtain ⟨ul, hul⟩ : ∃ ul, ul = U.length := ⟨_, rfl⟩
  have km : (m : Int) - (a : Int) = (ul : Int) := by omega
  have km1 : ((ul : Int) == 1) = false := by simp; omega
  have km2 : (b : Int) - (m : Int) = 1 := by omega
  have kub : ul ≤ 4096 := by omega
  have hbN : b ≤ N := by omega
  have ham : a ≤ m := by omega
  have hmN : m < N := by omega
  have HA := Lib.hid ha
  have HM := Lib.hid hm
  have HBB := Lib.hid hb
  clear ha hm hb hl2 hu hul
  unfold cmpF
  go_enter Try.func71, Try.ntmps71
  go_wp2
  clear km km1 km2 kub
  go_loopg [14, 15] (m - a) (fun g vi vj wr => ∃ (i j : Nat), a ≤ i ∧ i ≤ j ∧ j ≤ m ∧ g = j - i ∧ vi = .int .i64 i ∧ vj = .int .i64 j ∧ Hid (i = a ∨ ∃ x, U[i - 1 - a]? = some x ∧ qq l y x = false) ∧ Hid (j = m ∨ ∃ x, U[j - a]? = some x ∧ qq l y x = true) ∧ Sep w0 wr (sR A N c (X ++ (U ++ ([y] ++ Y))) :: boxI gl B n cl :: J))
  case atStart => exact ⟨a, m, Nat.le_refl _, ham, Nat.le_refl _, rfl, rfl, rfl, Lib.hid (.inl rfl), Lib.hid (.inl rfl), HS.out⟩
  case round =>
    clear HS
    obtain ⟨i, j, h1, h2, h3, rfl, rfl, rfl, HI, HJ, hs⟩ := hrel
    have HS := Lib.hid hs
    clear hs
    by_cases hij : i < j
    · have h4 : i ≤ 4096 := by omega
      have h5 : j ≤ 4096 := by omega
      obtain ⟨h, hh⟩ : ∃ h, h = (i + j) / 2 := ⟨_, rfl⟩
      obtain ⟨sj, hsj⟩ : ∃ sj, sj = i + j := ⟨_, rfl⟩
      have k2 : (i : Int) + (j : Int) = (sj : Int) := by omega
      have k3 : sj ≤ 8192 := by omega
      have k4 : (sj : Int) / 2 = (h : Int) := by omega
      have HH := Lib.hid hh
      clear hsj hh
      have hhi : i ≤ h ∧ h < j := by have := HH.out; omega
      obtain ⟨hhi1, hhi2⟩ := hhi
      have hA := HA.out
      have hM := HM.out
      have hB := HBB.out
      obtain ⟨x, hx⟩ := get_some (V := U) (k := h - a) (by omega)
      have px := ncell_at ((at_u X U ([y] ++ Y) (a := h) (show h - a < U.length by omega) (by omega)).trans hx)
      have py := ncell_at (show (X ++ (U ++ ([y] ++ Y)))[m]? = some y from (at_v X U [y] Y (k := 0) (a := m) (by simp) (by omega)).trans rfl)
      have hxn : x < n := HLT.out x (List.mem_of_getElem? hx)
      have HY := Lib.hid hx
      obtain ⟨g6, rfl, _, hat⟩ := HS.out.rowAt 0 rfl (by omega)
      have d0 := fun z : LaterOf wr => z.cell ((hat _).1 _ px)
      have e0 := fun z : LaterOf wr => z.cell ((hat _).1 _ py)
      have i0 : (0 : Int) ≤ (h : Int) := by omega
      have i1 : (h : Int) < (N : Int) := by omega
      have i2 : (0 : Int) ≤ (m : Int) := by omega
      have i3 : (m : Int) < (N : Int) := by omega
      have hh1 : a ≤ h := by omega
      have hh2 : h ≤ m := by omega
      have hh3 : h + 1 ≤ m := by omega
      have cC := Lib.hid (cmp_later (A := B) HE.out HS.out y x hy hxn)
      obtain ⟨rz, hrz⟩ : ∃ rz, rz = cmpZ l y x := ⟨_, rfl⟩
      rw [← hrz] at cC
      have HRZ := Lib.hid hrz
      clear hat px py hrz hx hA hM hB
      go_upto_region 17 with (fail)
      by_cases hq : rz < 0
      · have HQ : Hid (h = m ∨ ∃ x, U[h - a]? = some x ∧ qq l y x = true) := Lib.hid (.inr ⟨x, HY.out, by unfold qq; rw [← HRZ.out]; exact decide_eq_true hq⟩)
        refine wp_region_later (by kernel_rfl) (by kernel_rfl) ?_
        repeat (go_big_quiet_step (with_reducible exact Calls.later (cC.out _)))
        refine wpQuiet_nil ?_; intro xw hw'; obtain ⟨xq, hw''⟩ := hw'; obtain ⟨xw0, xh⟩ := xq; change xw = xw0 at hw''; subst hw''
        have HSx := Lib.hid (HS.out.later xh)
        clear d0 e0 cC HS xh HJ
        go_wp2
        go_roundg (h - i)
        case measure => omega
        case rel => exact ⟨i, h, h1, hhi1, hh2, rfl, rfl, rfl, HI, HQ, HSx.out⟩
      · have HQ : Hid (h + 1 = a ∨ ∃ x, U[h + 1 - 1 - a]? = some x ∧ qq l y x = false) := Lib.hid (.inr ⟨x, HY.out, by unfold qq; rw [← HRZ.out]; exact decide_eq_false hq⟩)
        refine wp_region_later (by kernel_rfl) (by kernel_rfl) ?_
        repeat (go_big_quiet_step (with_reducible exact Calls.later (cC.out _)))
        refine wpQuiet_nil ?_; intro xw hw'; obtain ⟨xq, hw''⟩ := hw'; obtain ⟨xw0, xh⟩ := xq; change xw = xw0 at hw''; subst hw''
        have HSx := Lib.hid (HS.out.later xh)
        clear d0 e0 cC HS xh HI
        go_wp2
        go_roundg (j - (h + 1))
        case measure => omega
        case rel => exact ⟨h + 1, j, by omega, by omega, h3, rfl, by go_num, rfl, HQ, HJ, HSx.out⟩
    · obtain rfl : i = j := by omega
      have hA := HA.out
      have hM := HM.out
      have hB := HBB.out
      have HFIN : Hid (Stb.Srt (leB l) (U.take (i - a) ++ (y :: U.drop (i - a)))) := Lib.hid (put_right HU.out HC.out (by omega) (by
        rcases HI.out with h | ⟨x, hx, hq⟩
        · exact .inl (by omega)
        · exact .inr ⟨x, by rw [show i - a - 1 = i - 1 - a by omega]; exact hx, hq⟩) (by
        rcases HJ.out with h | h
        · exact .inl (by omega)
        · exact .inr h))
      have hst : X ++ (U ++ ([y] ++ Y)) = Stb.Sft X U Y y U.length := by
        unfold Stb.Sft
        rw [List.take_length, List.drop_length]
        rfl
      rw [hst] at HS
      have hpu : i - a ≤ U.length := by omega
      have hia : i = a + (i - a) := by omega
      have hmu : m = a + U.length := by omega
      have HIA := Lib.hid hia
      have HMU := Lib.hid hmu
      have HPU := Lib.hid hpu
      clear HI HJ hA hM hB hst hia hmu hpu
      go_wp2
      go_loopg [17] (m - i) (fun g vk wl => ∃ (p : Nat), i - a ≤ p ∧ p ≤ U.length ∧ g = (a + p) - i ∧ vk = .int .i64 ((a + p : Nat) : Int) ∧ Sep w0 wl (sR A N c (Stb.Sft X U Y y p) :: boxI gl B n cl :: J))
      case atStart => exact ⟨U.length, HPU.out, Nat.le_refl _, by rw [← HMU.out], by rw [← HMU.out], HS.out⟩
      case round =>
        clear HS
        obtain ⟨p, hp, hp2, rfl, rfl, hs⟩ := hrel
        have HS := Lib.hid hs
        clear hs
        obtain ⟨k, hk⟩ : ∃ k, k = a + p := ⟨_, rfl⟩
        rw [← hk]
        have hA := HA.out
        have hM := HM.out
        have hIA := HIA.out
        by_cases hkq : i < k
        · obtain ⟨p', rfl⟩ : ∃ p', p = p' + 1 := ⟨p - 1, by omega⟩
          obtain ⟨x, hx⟩ := get_some (V := U) (k := p') (by omega)
          obtain ⟨r, hr⟩ : ∃ r, r = a + p' := ⟨_, rfl⟩
          have hsw := Stb.Sft.down X U Y y p' hx
          rw [show X.length + p' + 1 = k by omega, show X.length + p' = r by omega] at hsw
          have py := ncell_at ((congrArg (fun t => (Stb.Sft X U Y y (p' + 1))[t]?) (show k = X.length + (p' + 1) by omega)).trans (Stb.Sft.now X U Y y (p' + 1) hp2))
          have px := ncell_at ((congrArg (fun t => (Stb.Sft X U Y y (p' + 1))[t]?) (show r = X.length + p' by omega)).trans (Stb.Sft.prev X U Y y p' hx))
          obtain ⟨g6, rfl, _, hat⟩ := HS.out.rowAt 0 rfl (by omega)
          have d0 := (hat _).1 _ px
          have e0 := (hat _).1 _ py
          have u0 := (hat k).2.1
          have u1 := (hat r).2.1
          have K1 := (hat k).2.2 (.int .i64 (x : Int))
          obtain ⟨g', hg', _, hat2⟩ := K1.rowAt 0 rfl (by omega)
          cases hg'
          have K2 := (hat2 r).2.2 (.int .i64 (y : Int))
          rw [ncell_set, ncell_set, hsw] at K2
          have K := Lib.hid K2
          have i0 : (0 : Int) ≤ (k : Int) := by omega
          have i1 : (k : Int) < (N : Int) := by omega
          have i2 : (k : Int) - 1 = (r : Int) := by omega
          have i3 : (0 : Int) ≤ (r : Int) := by omega
          have i4 : (r : Int) < (N : Int) := by omega
          have hne : r ≠ k := by omega
          have i5 : k ≤ 4096 := by omega
          have hpm : i - a ≤ p' := by omega
          have hpm2 : p' ≤ U.length := by omega
          have hms : a + p' - i < a + (p' + 1) - i := by omega
          have HR := Lib.hid hr
          clear hat hat2 K1 K2 hsw hx px py HS hIA hA hM hk hr hp hp2
          go_upto_region 23 with (fail)
          go_region
          all_goals
            go_wp2
            go_roundg (a + p' - i)
            case measure => exact hms
            case rel => exact ⟨p', hpm, hpm2, rfl, by rw [← HR.out], K.out.drew⟩
        · obtain rfl : p = i - a := by omega
          have hm4 : k ≤ 4096 := by omega
          clear hk hIA hA hM
          go_wp2
          refine bodyPost_ret (v := .tuple #[]) (by simp [results, Try.results71]) rfl ?_
          refine ⟨rfl, _, HFIN.out, (Stb.ins_perm y U (i - a)).trans (List.perm_append_comm (l₁ := [y]) (l₂ := U)), ?_⟩
          have h := HS.out
          unfold Stb.Sft at h
          simpa using h
end Vic
end Go.Proofs.Ytfljbiobiobamab
