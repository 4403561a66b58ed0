/-
  Walk of symMerge of the library's stable sort. Conditions: none beyond each theorem's own premises.
-/
import Derived.Test.YtfljbiobiobamabStbI
namespace Go.Proofs.Ytfljbiobiobamab
open Go.RowKit
set_option linter.unusedVariables false
namespace Vic

theorem at_u (X U R : List Nat) {k a : Nat} (h : k < U.length) (ha : X.length + k = a) : (X ++ (U ++ R))[a]? = U[k]? := by
  subst ha
  rw [List.getElem?_append_right (by omega), Nat.add_sub_cancel_left, List.getElem?_append_left h]
theorem at_v (X U V Y : List Nat) {k a : Nat} (h : k < V.length) (ha : X.length + U.length + k = a) : (X ++ (U ++ (V ++ Y)))[a]? = V[k]? := by
  rw [← List.append_assoc]
  exact at_u (X ++ U) V Y h (by rw [List.length_append]; exact ha)
theorem get_some {V : List Nat} {k : Nat} (h : k < V.length) : ∃ y, V[k]? = some y := ⟨_, List.getElem?_eq_getElem h⟩
/-- one element put in where the search has ended -/
theorem put_left {l : List Fm} {V : List Nat} {x i : Nat} (hv : Stb.Srt (leB l) V) (hc : ∀ y ∈ V, Stb.Cnd (leB l) (qq l) x y) (hi : i ≤ V.length) (h1 : i = 0 ∨ ∃ y, V[i - 1]? = some y ∧ qq l y x = true) (h2 : i = V.length ∨ ∃ y, V[i]? = some y ∧ qq l y x = false) : Stb.Srt (leB l) (V.take i ++ (x :: V.drop i)) := by
  refine Stb.ins_left (le_ord l) hv hi ?_ ?_
  · rcases h1 with rfl | ⟨y, hy, hq⟩
    · simp
    · have h3 := Stb.above_all (le_ord l) hv hy (Stb.cnd_t (hc y (List.mem_of_getElem? hy)) (le_ord l) hq)
      by_cases h0 : i = 0
      · subst h0; simp
      · rwa [show i - 1 + 1 = i by omega] at h3
  · rcases h2 with rfl | ⟨y, hy, hq⟩
    · simp
    · exact Stb.below_all (le_ord l) hv hy (Stb.cnd_f (hc y (List.mem_of_getElem? hy)) hq)
theorem put_right {l : List Fm} {U : List Nat} {y i : Nat} (hu : Stb.Srt (leB l) U) (hc : ∀ x ∈ U, Stb.Cnd (leB l) (qq l) x y) (hi : i ≤ U.length) (h1 : i = 0 ∨ ∃ x, U[i - 1]? = some x ∧ qq l y x = false) (h2 : i = U.length ∨ ∃ x, U[i]? = some x ∧ qq l y x = true) : Stb.Srt (leB l) (U.take i ++ (y :: U.drop i)) := by
  refine Stb.ins_left (le_ord l) hu hi ?_ ?_
  · rcases h1 with rfl | ⟨x, hx, hq⟩
    · simp
    · have h3 := Stb.above_all (le_ord l) hu hx (Stb.cnd_f (hc x (List.mem_of_getElem? hx)) hq)
      by_cases h0 : i = 0
      · subst h0; simp
      · rwa [show i - 1 + 1 = i by omega] at h3
  · rcases h2 with rfl | ⟨x, hx, hq⟩
    · simp
    · exact Stb.below_all (le_ord l) hu hx (Stb.cnd_t (hc x (List.mem_of_getElem? hx)) (le_ord l) hq)
/-- what a merge hands back -/
def MRet (w0 : World) (l : List Fm) (A B : Option Addr) (N c n cl gl : Nat) (X U V Y : List Nat) (J : List It) (e : Ending) (w' : World) : Prop :=
  e = .returned (.tuple #[]) ∧ ∃ M, Stb.Srt (leB l) M ∧ M.Perm (U ++ V) ∧ Sep w0 w' (sR A N c (X ++ (M ++ Y)) :: boxI gl B n cl :: J)

set_option maxRecDepth 100000 in
set_option maxHeartbeats 6400000 in
theorem sym_left (A B : Option Addr) (N c n cl gl : Nat) (l : List Fm) (X V Y : List Nat) (x : Nat) (J : List It) (w0 w : World) (hE : Env w0 B n l) (hs : Sep w0 w (sR A N c (X ++ ([x] ++ (V ++ Y))) :: boxI gl B n cl :: J)) (hl : (X ++ ([x] ++ (V ++ Y))).length = N) (hN : N ≤ 4096) (hV : Stb.Srt (leB l) V) (hC : ∀ y ∈ V, Stb.Cnd (leB l) (qq l) x y) (hx : x < n) (hlt : ∀ y ∈ V, y < n) (hv : 0 < V.length) :
    Calls Try.prog 71 #[.slice A N c, .int .i64 (X.length : Int), .int .i64 ((X.length + 1 : Nat) : Int), .int .i64 ((X.length + 1 + V.length : Nat) : Int), cmpF gl] w (MRet w0 l A B N c n cl gl X [x] V Y J) := by
  have eg : ∀ args w, (callFunc 38 args).run Try.prog w = .ok (.enter 38 args) w := enters_of Try.func38 (by kernel_rfl) rfl
  have HE := Lib.hid hE
  have HS := Lib.hid hs
  have HV := Lib.hid hV
  have HC := Lib.hid hC
  have HLT := Lib.hid hlt
  have hl2 : X.length + 1 + V.length ≤ N := by rw [← hl]; simp only [List.length_append, List.length_singleton]; omega
  clear hE hs hV hC hlt hl
  obtain ⟨a, ha⟩ : ∃ a, a = X.length := ⟨_, rfl⟩
  obtain ⟨m, hm⟩ : ∃ m, m = X.length + 1 := ⟨_, rfl⟩
  obtain ⟨b, hb⟩ : ∃ b, b = X.length + 1 + V.length := ⟨_, rfl⟩
  rw [← hb, ← hm, ← ha]
  have km : (m : Int) - (a : Int) = 1 := by omega
  have hbN : b ≤ N := by omega
  have hmb : m < b := by omega
  have HA := Lib.hid ha
  have HM := Lib.hid hm
  have HBB := Lib.hid hb
  clear ha hm hb hl2 hv
  unfold cmpF
  go_enter Try.func71, Try.ntmps71
  go_wp2
  clear km
  go_loopg [10, 11] (b - m) (fun g vi vj wr => ∃ (i j : Nat), m ≤ i ∧ i ≤ j ∧ j ≤ b ∧ g = j - i ∧ vi = .int .i64 i ∧ vj = .int .i64 j ∧ Hid (i = m ∨ ∃ y, V[i - 1 - m]? = some y ∧ qq l y x = true) ∧ Hid (j = b ∨ ∃ y, V[j - m]? = some y ∧ qq l y x = false) ∧ Sep w0 wr (sR A N c (X ++ ([x] ++ (V ++ Y))) :: boxI gl B n cl :: J))
  case atStart => exact ⟨m, b, Nat.le_refl _, by omega, Nat.le_refl _, rfl, rfl, rfl, Lib.hid (.inl rfl), Lib.hid (.inl rfl), HS.out⟩
  case round =>
    clear HS
    obtain ⟨i, j, h1, h2, h3, rfl, rfl, rfl, HI, HJ, hs⟩ := hrel
    have HS := Lib.hid hs
    clear hs
    by_cases hij : i < j
    · have h4 : i ≤ 4096 := by omega
      have h5 : j ≤ 4096 := by omega
      obtain ⟨h, hh⟩ : ∃ h, h = (i + j) / 2 := ⟨_, rfl⟩
      obtain ⟨sj, hsj⟩ : ∃ sj, sj = i + j := ⟨_, rfl⟩
      have k2 : (i : Int) + (j : Int) = (sj : Int) := by omega
      have k3 : sj ≤ 8192 := by omega
      have k4 : (sj : Int) / 2 = (h : Int) := by omega
      have HH := Lib.hid hh
      clear hsj hh
      have hhi : i ≤ h ∧ h < j := by have := HH.out; omega
      obtain ⟨hhi1, hhi2⟩ := hhi
      have hA := HA.out
      have hM := HM.out
      have hB := HBB.out
      obtain ⟨y, hy⟩ := get_some (V := V) (k := h - m) (by omega)
      have py := ncell_at ((at_v X [x] V Y (a := h) (show h - m < V.length by omega) (by simp only [List.length_singleton]; omega)).trans hy)
      have px := ncell_at (show (X ++ ([x] ++ (V ++ Y)))[a]? = some x from (at_u X [x] (V ++ Y) (k := 0) (a := a) (by simp) (by omega)).trans rfl)
      have hyn : y < n := HLT.out y (List.mem_of_getElem? hy)
      have HY := Lib.hid hy
      obtain ⟨g6, rfl, _, hat⟩ := HS.out.rowAt 0 rfl (by omega)
      have d0 := fun z : LaterOf wr => z.cell ((hat _).1 _ py)
      have e0 := fun z : LaterOf wr => z.cell ((hat _).1 _ px)
      have i0 : (0 : Int) ≤ (h : Int) := by omega
      have i1 : (h : Int) < (N : Int) := by omega
      have i2 : (0 : Int) ≤ (a : Int) := by omega
      have i3 : (a : Int) < (N : Int) := by omega
      have hh1 : m ≤ h := by omega
      have hh2 : h ≤ b := by omega
      have hh3 : h + 1 ≤ b := by omega
      have cC := Lib.hid (cmp_later (A := B) HE.out HS.out y x hyn hx)
      obtain ⟨rz, hrz⟩ : ∃ rz, rz = cmpZ l y x := ⟨_, rfl⟩
      rw [← hrz] at cC
      have HRZ := Lib.hid hrz
      clear hat px py hrz hy hA hM hB
      go_upto_region 5 with (fail)
      by_cases hq : rz < 0
      · have HQ : Hid (h + 1 = m ∨ ∃ y, V[h + 1 - 1 - m]? = some y ∧ qq l y x = true) := Lib.hid (.inr ⟨y, HY.out, by unfold qq; rw [← HRZ.out]; exact decide_eq_true hq⟩)
        refine wp_region_later (by kernel_rfl) (by kernel_rfl) ?_
        repeat (go_big_quiet_step (with_reducible exact Calls.later (cC.out _)))
        refine wpQuiet_nil ?_; intro xw hw'; obtain ⟨xq, hw''⟩ := hw'; obtain ⟨xw0, xh⟩ := xq; change xw = xw0 at hw''; subst hw''
        have HSx := Lib.hid (HS.out.later xh)
        clear d0 e0 cC HS xh HI
        go_wp2
        go_roundg (j - (h + 1))
        case measure => omega
        case rel => exact ⟨h + 1, j, by omega, by omega, h3, rfl, by go_num, rfl, HQ, HJ, HSx.out⟩
      · have HQ : Hid (h = b ∨ ∃ y, V[h - m]? = some y ∧ qq l y x = false) := Lib.hid (.inr ⟨y, HY.out, by unfold qq; rw [← HRZ.out]; exact decide_eq_false hq⟩)
        refine wp_region_later (by kernel_rfl) (by kernel_rfl) ?_
        repeat (go_big_quiet_step (with_reducible exact Calls.later (cC.out _)))
        refine wpQuiet_nil ?_; intro xw hw'; obtain ⟨xq, hw''⟩ := hw'; obtain ⟨xw0, xh⟩ := xq; change xw = xw0 at hw''; subst hw''
        have HSx := Lib.hid (HS.out.later xh)
        clear d0 e0 cC HS xh HJ
        go_wp2
        go_roundg (h - i)
        case measure => omega
        case rel => exact ⟨i, h, h1, hhi1, hh2, rfl, rfl, rfl, HI, HQ, HSx.out⟩
    · obtain rfl : i = j := by omega
      have hA := HA.out
      have hM := HM.out
      have hB := HBB.out
      have HFIN : Hid (Stb.Srt (leB l) (V.take (i - m) ++ (x :: V.drop (i - m)))) := Lib.hid (put_left HV.out HC.out (by omega) (by
        rcases HI.out with h | ⟨y, hy, hq⟩
        · exact .inl (by omega)
        · exact .inr ⟨y, by rw [show i - m - 1 = i - 1 - m by omega]; exact hy, hq⟩) (by
        rcases HJ.out with h | h
        · exact .inl (by omega)
        · exact .inr h))
      obtain ⟨q, hq⟩ : ∃ q, q + 1 = i := ⟨i - 1, by omega⟩
      have kq : (i : Int) - 1 = (q : Int) := by omega
      have haq : a ≤ q := by omega
      have hqN : q < N := by omega
      have HQI := Lib.hid hq
      clear HI HJ hA hM hB hq
      go_wp2
      go_loopg [13] (q - a) (fun g vk wl => ∃ (p : Nat), p ≤ i - m ∧ g = q - (a + p) ∧ vk = .int .i64 ((a + p : Nat) : Int) ∧ Sep w0 wl (sR A N c (Stb.Sft X V Y x p) :: boxI gl B n cl :: J))
      case atStart => exact ⟨0, Nat.zero_le _, rfl, by simp, HS.out⟩
      case round =>
        clear HS
        obtain ⟨p, hp, rfl, rfl, hs⟩ := hrel
        have HS := Lib.hid hs
        clear hs
        obtain ⟨k, hk⟩ : ∃ k, k = a + p := ⟨_, rfl⟩
        rw [← hk]
        have hQ := HQI.out
        have hA := HA.out
        have hM := HM.out
        have hB := HBB.out
        by_cases hkq : k < q
        · obtain ⟨y, hy⟩ := get_some (V := V) (k := p) (by omega)
          have hsw := Stb.Sft.up X V Y x p hy
          rw [show X.length + p = k by omega] at hsw
          have px := ncell_at ((congrArg (fun t => (Stb.Sft X V Y x p)[t]?) (show k = X.length + p by omega)).trans (Stb.Sft.now X V Y x p (by omega)))
          have py := ncell_at ((congrArg (fun t => (Stb.Sft X V Y x p)[t]?) (show k + 1 = X.length + p + 1 by omega)).trans (Stb.Sft.next X V Y x p hy))
          obtain ⟨r, hr⟩ : ∃ r, r = k + 1 := ⟨_, rfl⟩
          rw [← hr] at py hsw
          obtain ⟨g6, rfl, _, hat⟩ := HS.out.rowAt 0 rfl (by omega)
          have d0 := (hat _).1 _ px
          have e0 := (hat _).1 _ py
          have u0 := (hat k).2.1
          have u1 := (hat r).2.1
          have K1 := (hat k).2.2 (.int .i64 (y : Int))
          obtain ⟨g', hg', _, hat2⟩ := K1.rowAt 0 rfl (by omega)
          cases hg'
          have K2 := (hat2 r).2.2 (.int .i64 (x : Int))
          rw [ncell_set, ncell_set, hsw] at K2
          have K := Lib.hid K2
          have i0 : (0 : Int) ≤ (k : Int) := by omega
          have i1 : (k : Int) < (N : Int) := by omega
          have i2 : (k : Int) + 1 = (r : Int) := by omega
          have i3 : (0 : Int) ≤ (r : Int) := by omega
          have i4 : (r : Int) < (N : Int) := by omega
          have hne : r ≠ k := by omega
          have i5 : k ≤ 4096 := by omega
          have hpm : p + 1 ≤ i - m := by omega
          have hms : q - (a + (p + 1)) < q - (a + p) := by omega
          have HK := Lib.hid hk
          have HR := Lib.hid hr
          clear hat hat2 K1 K2 hsw hy px py HS hQ hA hM hB hk hr
          go_upto_region 11 with (fail)
          go_region
          all_goals
            go_wp2
            go_roundg (q - (a + (p + 1)))
            case measure => exact hms
            case rel => exact ⟨p + 1, hpm, rfl, by rw [show a + (p + 1) = r by have := HK.out; have := HR.out; omega], K.out.drew⟩
        · obtain rfl : p = i - m := by omega
          have hm4 : k ≤ 4096 := by omega
          have HK := Lib.hid hk
          clear hk hQ hA hM hB
          go_wp2
          refine bodyPost_ret (v := .tuple #[]) (by simp [results, Try.results71]) rfl ?_
          refine ⟨rfl, _, HFIN.out, Stb.ins_perm x V (i - m), ?_⟩
          have h := HS.out
          unfold Stb.Sft at h
          simpa using h
end Vic
end Go.Proofs.Ytfljbiobiobamab
