/-
  Walk of symMerge of the library's stable sort, both parts longer than one. Conditions: none beyond each theorem's own premises.
-/
import Derived.Test.YtfljbiobiobamabStbT
namespace Go.Proofs.Ytfljbiobiobamab
open Go.RowKit
set_option linter.unusedVariables false
namespace Vic

/-- symMerge's contract at parts of at most k elements in all -/
def SymC (w0 : World) (l : List Fm) (A B : Option Addr) (N c n cl gl : Nat) (J : List It) (k : Nat) : Prop :=
  ∀ (X U V Y : List Nat) (a m b : Nat) (w : World), X.length = a → a + U.length = m → m + V.length = b → U.length + V.length ≤ k → 0 < U.length → 0 < V.length → Stb.Srt (leB l) U → Stb.Srt (leB l) V → (∀ x ∈ U, ∀ y ∈ V, Stb.Cnd (leB l) (qq l) x y) → (∀ x ∈ U, x < n) → (∀ y ∈ V, y < n) →
    (X ++ (U ++ (V ++ Y))).length = N → Sep w0 w (sR A N c (X ++ (U ++ (V ++ Y))) :: boxI gl B n cl :: J) →
    Calls Try.prog 71 #[.slice A N c, .int .i64 (a : Int), .int .i64 (m : Int), .int .i64 (b : Int), cmpF gl] w (MRet w0 l A B N c n cl gl X U V Y J)
theorem mid_perm (U1 U2 V1 V2 : List Nat) : ((U1 ++ V1) ++ (U2 ++ V2)).Perm ((U1 ++ U2) ++ (V1 ++ V2)) := by
  rw [List.append_assoc, List.append_assoc]
  refine List.Perm.append_left _ ?_
  rw [← List.append_assoc, ← List.append_assoc]
  exact List.Perm.append_right _ List.perm_append_comm
theorem mid_srt {l : List Fm} {U1 U2 V1 V2 M1 M2 : List Nat} (hcut : ∀ x ∈ U1 ++ V1, ∀ y ∈ U2 ++ V2, leB l x y = true) (h1 : Stb.Srt (leB l) M1) (h2 : Stb.Srt (leB l) M2) (p1 : M1.Perm (U1 ++ V1)) (p2 : M2.Perm (U2 ++ V2)) : Stb.Srt (leB l) (M1 ++ M2) ∧ (M1 ++ M2).Perm ((U1 ++ U2) ++ (V1 ++ V2)) :=
  ⟨Stb.Srt.app h1 h2 fun x hx y hy => hcut x (p1.mem_iff.1 hx) y (p2.mem_iff.1 hy), (p1.append p2).trans (mid_perm U1 U2 V1 V2)⟩
/-- a part of which one side is none -/
theorem one_srt {l : List Fm} {U V : List Nat} (hu : Stb.Srt (leB l) U) (hv : Stb.Srt (leB l) V) (h : U.length = 0 ∨ V.length = 0) : Stb.Srt (leB l) (U ++ V) := by
  rcases h with h | h
  · obtain rfl := List.eq_nil_of_length_eq_zero h
    exact hv
  · obtain rfl := List.eq_nil_of_length_eq_zero h
    rw [List.append_nil]
    exact hu
theorem rot_of (X U1 U2 V1 V2 Y : List Nat) {m i j : Nat} (h1 : X.length + U1.length + i = m) (h2 : U2.length = i) (h3 : V1.length = j) : Stb.Rot m i j (X ++ ((U1 ++ U2) ++ ((V1 ++ V2) ++ Y))) (X ++ ((U1 ++ V1) ++ ((U2 ++ V2) ++ Y))) := by
  have h := Stb.Rot.mk (X ++ U1) U2 V1 (V2 ++ Y) m i j (by rw [List.length_append]; omega) h2 h3
  simpa only [List.append_assoc] using h
theorem norot (X U1 U2 V1 V2 Y : List Nat) (h : U2.length = 0 ∨ V1.length = 0) : X ++ ((U1 ++ U2) ++ ((V1 ++ V2) ++ Y)) = X ++ ((U1 ++ V1) ++ ((U2 ++ V2) ++ Y)) := by
  rcases h with h | h
  · obtain rfl := List.eq_nil_of_length_eq_zero h
    simp
  · obtain rfl := List.eq_nil_of_length_eq_zero h
    simp

set_option maxRecDepth 100000 in
set_option maxHeartbeats 12800000 in
theorem sym_mid (A B : Option Addr) (N c n cl gl : Nat) (l : List Fm) (J : List It) (w0 : World) (hE : Env w0 B n l) (hN : N ≤ 4096) (k : Nat) (IH : SymC w0 l A B N c n cl gl J k)
    (X U V Y : List Nat) (a m b : Nat) (w : World) (ha : X.length = a) (hm : a + U.length = m) (hb : m + V.length = b) (hk : U.length + V.length ≤ k + 1) (hu1 : 1 < U.length) (hv1 : 1 < V.length) (hU : Stb.Srt (leB l) U) (hV : Stb.Srt (leB l) V) (hC : ∀ x ∈ U, ∀ y ∈ V, Stb.Cnd (leB l) (qq l) x y) (hxn : ∀ x ∈ U, x < n) (hyn : ∀ y ∈ V, y < n)
    (hl : (X ++ (U ++ (V ++ Y))).length = N) (hs : Sep w0 w (sR A N c (X ++ (U ++ (V ++ Y))) :: boxI gl B n cl :: J)) :
    Calls Try.prog 71 #[.slice A N c, .int .i64 (a : Int), .int .i64 (m : Int), .int .i64 (b : Int), cmpF gl] w (MRet w0 l A B N c n cl gl X U V Y J) := by
  have eg : ∀ args w, (callFunc 38 args).run Try.prog w = .ok (.enter 38 args) w := enters_of Try.func38 (by kernel_rfl) rfl
  have HE := Lib.hid hE
  have HIH := Lib.hid IH
  have HS := Lib.hid hs
  have HU := Lib.hid hU
  have HV := Lib.hid hV
  have HC := Lib.hid hC
  have HXN := Lib.hid hxn
  have HYN := Lib.hid hyn
  have hbN : b ≤ N := by rw [← hl]; simp only [List.length_append]; omega
  have HLL := Lib.hid hl
  obtain ⟨ul, hul⟩ : ∃ ul, ul = U.length := ⟨_, rfl⟩
  obtain ⟨vl, hvl⟩ : ∃ vl, vl = V.length := ⟨_, rfl⟩
  obtain ⟨sab, hsab⟩ : ∃ sab, sab = a + b := ⟨_, rfl⟩
  obtain ⟨mid, hmid⟩ : ∃ mid, mid = sab / 2 := ⟨_, rfl⟩
  obtain ⟨nn, hnn⟩ : ∃ nn, nn = mid + m := ⟨_, rfl⟩
  obtain ⟨p, hp⟩ : ∃ p, p + 1 = nn := ⟨nn - 1, by omega⟩
  have k1 : (m : Int) - (a : Int) = (ul : Int) := by omega
  have k2 : ((ul : Int) == 1) = false := by simp; omega
  have k3 : (b : Int) - (m : Int) = (vl : Int) := by omega
  have k4 : ((vl : Int) == 1) = false := by simp; omega
  have k5 : (a : Int) + (b : Int) = (sab : Int) := by omega
  have k6 : (sab : Int) / 2 = (mid : Int) := by omega
  have k7 : (mid : Int) + (m : Int) = (nn : Int) := by omega
  have k8 : (nn : Int) - 1 = (p : Int) := by omega
  have b1 : ul ≤ 4096 := by omega
  have b2 : vl ≤ 4096 := by omega
  have b3 : sab ≤ 8192 := by omega
  have b4 : mid ≤ 4096 := by omega
  have b5 : nn ≤ 8192 := by omega
  have b6 : p ≤ 8192 := by omega
  have HFA : Hid (X.length = a ∧ a + U.length = m ∧ m + V.length = b ∧ U.length + V.length ≤ k + 1 ∧ 1 < U.length ∧ 1 < V.length ∧ mid = (a + b) / 2 ∧ nn = mid + m ∧ p + 1 = nn) := Lib.hid ⟨ha, hm, hb, hk, hu1, hv1, by rw [hmid, hsab], hnn, hp⟩
  unfold cmpF
  by_cases hmm : mid < m
  · obtain ⟨s0, hs0⟩ : ∃ s0, s0 + b = nn := ⟨nn - b, by omega⟩
    have k9 : (nn : Int) - (b : Int) = (s0 : Int) := by omega
    have b7 : s0 ≤ 4096 := by omega
    have q2 : s0 ≤ mid := by omega
    have HQ : Hid (a ≤ s0 ∧ s0 ≤ mid ∧ mid ≤ m ∧ mid ≤ mid ∧ nn ≤ s0 + b ∧ (s0 = a ∨ nn = s0 + b) ∧ (mid = m ∨ mid = mid)) := Lib.hid ⟨by omega, by omega, by omega, by omega, by omega, .inr hs0.symm, .inr rfl⟩
    clear ha hm hb hk hu1 hv1 hul hvl hsab hmid hnn hp hE IH hs hU hV hC hxn hyn hl hs0
    go_enter Try.func71, Try.ntmps71
    go_wp2
    clear k1 k2 k3 k4 k5 k6 k7 k8 k9 b1 b2 b3 b7
    go_loopg [20, 21] (mid - s0) (fun g vs vr wr => ∃ (st r : Nat), s0 ≤ st ∧ st ≤ r ∧ r ≤ mid ∧ g = r - st ∧ vs = .int .i64 st ∧ vr = .int .i64 r ∧ Hid (st = s0 ∨ ∃ x y, U[st - 1 - a]? = some x ∧ V[nn - st - m]? = some y ∧ qq l y x = false) ∧ Hid (r = mid ∨ ∃ x y, U[r - a]? = some x ∧ V[nn - 1 - r - m]? = some y ∧ qq l y x = true) ∧ Sep w0 wr (sR A N c (X ++ (U ++ (V ++ Y))) :: boxI gl B n cl :: J))
    case atStart => exact ⟨s0, mid, Nat.le_refl _, q2, Nat.le_refl _, rfl, rfl, rfl, Lib.hid (.inl rfl), Lib.hid (.inl rfl), HS.out⟩
    case round =>
      clear HS
      obtain ⟨st, r, h1, h2, h3, rfl, rfl, rfl, HI, HJ, hs⟩ := hrel
      have HS := Lib.hid hs
      clear hs
      have hFA := HFA.out
      have hQ := HQ.out
      by_cases hij : st < r
      · obtain ⟨h, hh⟩ : ∃ h, h = (st + r) / 2 := ⟨_, rfl⟩
        obtain ⟨sj, hsj⟩ : ∃ sj, sj = st + r := ⟨_, rfl⟩
        obtain ⟨pc, hpc⟩ : ∃ pc, pc + h = p := ⟨p - h, by omega⟩
        have k2 : (st : Int) + (r : Int) = (sj : Int) := by omega
        have k3 : sj ≤ 8192 := by omega
        have k4 : (sj : Int) / 2 = (h : Int) := by omega
        have k5 : (p : Int) - (h : Int) = (pc : Int) := by omega
        have h4 : st ≤ 4096 := by omega
        have h5 : r ≤ 4096 := by omega
        have hhi1 : st ≤ h := by omega
        have hhi2 : h < r := by omega
        obtain ⟨x, hx⟩ := get_some (V := U) (k := h - a) (by omega)
        obtain ⟨y, hy⟩ := get_some (V := V) (k := pc - m) (by omega)
        have px := ncell_at ((at_u X U (V ++ Y) (a := h) (show h - a < U.length by omega) (by omega)).trans hx)
        have py := ncell_at ((at_v X U V Y (a := pc) (show pc - m < V.length by omega) (by omega)).trans hy)
        have hxn : x < n := HXN.out x (List.mem_of_getElem? hx)
        have hyn : y < n := HYN.out y (List.mem_of_getElem? hy)
        have HX := Lib.hid hx
        have HY := Lib.hid hy
        obtain ⟨g6, rfl, _, hat⟩ := HS.out.rowAt 0 rfl (by omega)
        have d0 := fun z : LaterOf wr => z.cell ((hat _).1 _ px)
        have e0 := fun z : LaterOf wr => z.cell ((hat _).1 _ py)
        have i0 : (0 : Int) ≤ (h : Int) := by omega
        have i1 : (h : Int) < (N : Int) := by omega
        have i2 : (0 : Int) ≤ (pc : Int) := by omega
        have i3 : (pc : Int) < (N : Int) := by omega
        have i4 : pc ≤ 4096 := by omega
        have i5 : h ≤ 4096 := by omega
        have z1 : s0 ≤ h + 1 := by omega
        have z2 : h + 1 ≤ r := by omega
        have z3 : h ≤ mid := by omega
        have z4 : r - (h + 1) < r - st := by omega
        have z5 : h - st < r - st := by omega
        have z6 : nn - (h + 1) - m = pc - m := by omega
        have z7 : nn - 1 - h - m = pc - m := by omega
        have HZ6 := Lib.hid z6
        have HZ7 := Lib.hid z7
        have cC := Lib.hid (cmp_later (A := B) HE.out HS.out y x hyn hxn)
        obtain ⟨rz, hrz⟩ : ∃ rz, rz = cmpZ l y x := ⟨_, rfl⟩
        rw [← hrz] at cC
        have HRZ := Lib.hid hrz
        clear hat px py hrz hx hy hFA hQ hh hsj hpc z6 z7 q2 hmm
        go_upto_region 35 with (fail)
        by_cases hq : rz < 0
        · have HQ2 : Hid (h = mid ∨ ∃ x y, U[h - a]? = some x ∧ V[nn - 1 - h - m]? = some y ∧ qq l y x = true) := Lib.hid (.inr ⟨x, y, HX.out, by rw [HZ7.out]; exact HY.out, by unfold qq; rw [← HRZ.out]; exact decide_eq_true hq⟩)
          refine wp_region_later (by kernel_rfl) (by kernel_rfl) ?_
          repeat (go_big_quiet_step (with_reducible exact Calls.later (cC.out _)))
          refine wpQuiet_nil ?_; intro xw hw'; obtain ⟨xq, hw''⟩ := hw'; obtain ⟨xw0, xh⟩ := xq; change xw = xw0 at hw''; subst hw''
          have HSx := Lib.hid (HS.out.later xh)
          clear d0 e0 cC HS xh HJ
          go_wp2
          go_roundg (h - st)
          case measure => exact z5
          case rel => exact ⟨st, h, h1, hhi1, z3, rfl, rfl, rfl, HI, HQ2, HSx.out⟩
        · have HQ2 : Hid (h + 1 = s0 ∨ ∃ x y, U[h + 1 - 1 - a]? = some x ∧ V[nn - (h + 1) - m]? = some y ∧ qq l y x = false) := Lib.hid (.inr ⟨x, y, HX.out, by rw [HZ6.out]; exact HY.out, by unfold qq; rw [← HRZ.out]; exact decide_eq_false hq⟩)
          refine wp_region_later (by kernel_rfl) (by kernel_rfl) ?_
          repeat (go_big_quiet_step (with_reducible exact Calls.later (cC.out _)))
          refine wpQuiet_nil ?_; intro xw hw'; obtain ⟨xq, hw''⟩ := hw'; obtain ⟨xw0, xh⟩ := xq; change xw = xw0 at hw''; subst hw''
          have HSx := Lib.hid (HS.out.later xh)
          clear d0 e0 cC HS xh HI
          go_wp2
          go_roundg (r - (h + 1))
          case measure => exact z4
          case rel => exact ⟨h + 1, r, z1, z2, h3, rfl, by go_num, rfl, HQ2, HJ, HSx.out⟩
      · obtain rfl : st = r := by omega
        obtain ⟨en, hen⟩ : ∃ en, en + st = nn := ⟨nn - st, by omega⟩
        have k1 : (nn : Int) - (st : Int) = (en : Int) := by omega
        have b8 : en ≤ 4096 := by omega
        have b9 : st ≤ 4096 := by omega
        have hk1 := Stb.sym_cut (le_ord l) HU.out HV.out HC.out (s := st - a) (t := en - m) (by omega) (by omega) (by
          rcases HI.out with h | ⟨x, y, hx, hy, hq⟩
          · rcases hQ.2.2.2.2.2.1 with h' | h'
            · exact .inl (by omega)
            · exact .inr (.inl (by omega))
          · exact .inr (.inr ⟨x, y, by rw [show st - a - 1 = st - 1 - a by omega]; exact hx, by rw [show en - m = nn - st - m by omega]; exact hy, hq⟩)) (by
          rcases HJ.out with h | ⟨x, y, hx, hy, hq⟩
          · rcases hQ.2.2.2.2.2.2 with h' | h'
            · exact .inl (by omega)
            · exact .inr (.inl (by omega))
          · exact .inr (.inr ⟨x, y, hx, by rw [show en - m - 1 = nn - 1 - st - m by omega]; exact hy, hq⟩))
        obtain ⟨U1, U2, rfl, hU1⟩ := Stb.split_at U (st - a) (by omega)
        obtain ⟨V1, V2, rfl, hV1⟩ := Stb.split_at V (en - m) (by omega)
        rw [List.take_left' hU1, List.take_left' hV1, List.drop_left' hU1, List.drop_left' hV1] at hk1
        have HCUT := Lib.hid hk1
        simp only [List.length_append] at hFA
        have HEN : Hid (X.length = a ∧ a + U1.length = st ∧ st + U2.length = m ∧ m + V1.length = en ∧ en + V2.length = b ∧ st + V1.length = mid ∧ mid + U2.length = en ∧ U1.length + U2.length + (V1.length + V2.length) ≤ k + 1 ∧ 0 < U1.length + V1.length ∧ 0 < U2.length + V2.length) := Lib.hid ⟨by omega, by omega, by omega, by omega, by omega, by omega, by omega, by omega, by omega, by omega⟩
        clear HI HJ hFA hQ hen hU1 hV1 hk1 HFA HQ h1 h2 h3 hij q2 hmm
        go_upto_region 39 with (fail)
        clear k1
        by_cases hr1 : st < m
        · by_cases hr2 : m < en
          · have hN2 := HEN.out
            have cR := Lib.hid (rot_any A N c m (m - st) (en - m) _ _ _ (cmpF gl) w0 wr HS.out HLL.out hN (rot_of X U1 U2 V1 V2 Y (i := m - st) (j := en - m) (by omega) (by omega) (by omega)) (by omega) (by omega))
            rw [show m - (m - st) = st by omega, show m + (en - m) = en by omega] at cR
            unfold cmpF at cR
            clear hN2
            go_wp2_with fail
            refine cR.out.mono ?_; rintro er w1 ⟨rfl, hs1⟩
            have HS1 := Lib.hid hs1
            clear hs1 cR HS hr1 hr2
            by_cases hr1 : a < st
            · by_cases hr2 : st < mid
              · have hN2 := HEN.out
                have hL1 : (X ++ (U1 ++ (V1 ++ ((U2 ++ V2) ++ Y)))).length = N := by
                  rw [← HLL.out]
                  simp only [List.length_append]
                  omega
                have cR := Lib.hid (HIH.out X U1 V1 ((U2 ++ V2) ++ Y) a st mid w1 (by omega) (by omega) (by omega) (by omega) (by omega) (by omega) HU.out.left HV.out.left (fun x hx y hy => HC.out x (List.mem_append_left _ hx) y (List.mem_append_left _ hy)) (fun x hx => HXN.out x (List.mem_append_left _ hx)) (fun x hx => HYN.out x (List.mem_append_left _ hx)) hL1 (by have h := HS1.out; rw [List.append_assoc] at h; exact h))
                unfold cmpF at cR
                clear hN2 hL1
                go_wp2_with fail
                refine cR.out.mono ?_; rintro er w2 ⟨rfl, M1, hM1, hP1, hs2⟩
                have HM1 := Lib.hid hM1
                have HP1 := Lib.hid hP1
                have HS2 := Lib.hid hs2
                clear hs2 hM1 hP1 cR HS1 hr1 hr2
                by_cases hr1 : mid < en
                · by_cases hr2 : en < b
                  · have hN2 := HEN.out
                    have hml := HP1.out.length_eq
                    rw [List.length_append] at hml
                    have hL1 : ((X ++ M1) ++ (U2 ++ (V2 ++ Y))).length = N := by
                      rw [← HLL.out]
                      simp only [List.length_append]
                      omega
                    have cR := Lib.hid (HIH.out (X ++ M1) U2 V2 Y mid en b w2 (by rw [List.length_append]; omega) (by omega) (by omega) (by omega) (by omega) (by omega) HU.out.right HV.out.right (fun x hx y hy => HC.out x (List.mem_append_right _ hx) y (List.mem_append_right _ hy)) (fun x hx => HXN.out x (List.mem_append_right _ hx)) (fun x hx => HYN.out x (List.mem_append_right _ hx)) hL1 (by have h := HS2.out; simp only [List.append_assoc] at h ⊢; exact h))
                    unfold cmpF at cR
                    clear hN2 hL1 hml
                    go_wp2_with fail
                    refine cR.out.mono ?_; rintro er w3 ⟨rfl, M2, hM2, hP2, hs3⟩
                    have HS3 := Lib.hid hs3
                    have HFN := Lib.hid (mid_srt HCUT.out HM1.out hM2 HP1.out hP2)
                    clear hs3 hM2 hP2 cR HS2 hr1 hr2
                    go_wp2
                    refine bodyPost_end (v := .tuple #[]) (by simp [results, Try.results71]) rfl ?_
                    refine ⟨rfl, M1 ++ M2, HFN.out.1, HFN.out.2, ?_⟩
                    have h := HS3.out
                    simp only [List.append_assoc] at h ⊢
                    exact h
                  · have hN2 := HEN.out
                    have HFN := Lib.hid (mid_srt HCUT.out HM1.out (one_srt HU.out.right HV.out.right (.inr (by omega))) HP1.out (List.Perm.refl _))
                    clear hN2
                    go_wp2
                    refine bodyPost_end (v := .tuple #[]) (by simp [results, Try.results71]) rfl ?_
                    refine ⟨rfl, M1 ++ (U2 ++ V2), HFN.out.1, HFN.out.2, ?_⟩
                    have h := HS2.out
                    simp only [List.append_assoc] at h ⊢
                    exact h
                · have hN2 := HEN.out
                  have HFN := Lib.hid (mid_srt HCUT.out HM1.out (one_srt HU.out.right HV.out.right (.inl (by omega))) HP1.out (List.Perm.refl _))
                  clear hN2
                  go_wp2
                  refine bodyPost_end (v := .tuple #[]) (by simp [results, Try.results71]) rfl ?_
                  refine ⟨rfl, M1 ++ (U2 ++ V2), HFN.out.1, HFN.out.2, ?_⟩
                  have h := HS2.out
                  simp only [List.append_assoc] at h ⊢
                  exact h
              · have hN2 := HEN.out
                have HM1 := Lib.hid (one_srt HU.out.left HV.out.left (.inr (by omega)))
                have HP1 := Lib.hid (List.Perm.refl (U1 ++ V1))
                obtain ⟨M1, hM1⟩ : ∃ M1, M1 = U1 ++ V1 := ⟨_, rfl⟩
                rw [← hM1] at HM1 HS1
                have HP1 : Hid (M1.Perm (U1 ++ V1)) := Lib.hid (by rw [hM1])
                have HS2 := HS1
                clear hN2 hM1 HS1
                obtain ⟨w2, rfl⟩ : ∃ w2, w2 = w1 := ⟨_, rfl⟩
                go_upto_region 43 with (fail)
                clear hr1 hr2
                by_cases hr1 : mid < en
                · by_cases hr2 : en < b
                  · have hN2 := HEN.out
                    have hml := HP1.out.length_eq
                    rw [List.length_append] at hml
                    have hL1 : ((X ++ M1) ++ (U2 ++ (V2 ++ Y))).length = N := by
                      rw [← HLL.out]
                      simp only [List.length_append]
                      omega
                    have cR := Lib.hid (HIH.out (X ++ M1) U2 V2 Y mid en b w2 (by rw [List.length_append]; omega) (by omega) (by omega) (by omega) (by omega) (by omega) HU.out.right HV.out.right (fun x hx y hy => HC.out x (List.mem_append_right _ hx) y (List.mem_append_right _ hy)) (fun x hx => HXN.out x (List.mem_append_right _ hx)) (fun x hx => HYN.out x (List.mem_append_right _ hx)) hL1 (by have h := HS2.out; simp only [List.append_assoc] at h ⊢; exact h))
                    unfold cmpF at cR
                    clear hN2 hL1 hml
                    go_wp2_with fail
                    refine cR.out.mono ?_; rintro er w3 ⟨rfl, M2, hM2, hP2, hs3⟩
                    have HS3 := Lib.hid hs3
                    have HFN := Lib.hid (mid_srt HCUT.out HM1.out hM2 HP1.out hP2)
                    clear hs3 hM2 hP2 cR HS2 hr1 hr2
                    go_wp2
                    refine bodyPost_end (v := .tuple #[]) (by simp [results, Try.results71]) rfl ?_
                    refine ⟨rfl, M1 ++ M2, HFN.out.1, HFN.out.2, ?_⟩
                    have h := HS3.out
                    simp only [List.append_assoc] at h ⊢
                    exact h
                  · have hN2 := HEN.out
                    have HFN := Lib.hid (mid_srt HCUT.out HM1.out (one_srt HU.out.right HV.out.right (.inr (by omega))) HP1.out (List.Perm.refl _))
                    clear hN2
                    go_wp2
                    refine bodyPost_end (v := .tuple #[]) (by simp [results, Try.results71]) rfl ?_
                    refine ⟨rfl, M1 ++ (U2 ++ V2), HFN.out.1, HFN.out.2, ?_⟩
                    have h := HS2.out
                    simp only [List.append_assoc] at h ⊢
                    exact h
                · have hN2 := HEN.out
                  have HFN := Lib.hid (mid_srt HCUT.out HM1.out (one_srt HU.out.right HV.out.right (.inl (by omega))) HP1.out (List.Perm.refl _))
                  clear hN2
                  go_wp2
                  refine bodyPost_end (v := .tuple #[]) (by simp [results, Try.results71]) rfl ?_
                  refine ⟨rfl, M1 ++ (U2 ++ V2), HFN.out.1, HFN.out.2, ?_⟩
                  have h := HS2.out
                  simp only [List.append_assoc] at h ⊢
                  exact h
            · have hN2 := HEN.out
              have HM1 := Lib.hid (one_srt HU.out.left HV.out.left (.inl (by omega)))
              obtain ⟨M1, hM1⟩ : ∃ M1, M1 = U1 ++ V1 := ⟨_, rfl⟩
              rw [← hM1] at HM1 HS1
              have HP1 : Hid (M1.Perm (U1 ++ V1)) := Lib.hid (by rw [hM1])
              have HS2 := HS1
              clear hN2 hM1 HS1
              obtain ⟨w2, rfl⟩ : ∃ w2, w2 = w1 := ⟨_, rfl⟩
              go_upto_region 43 with (fail)
              clear hr1
              by_cases hr1 : mid < en
              · by_cases hr2 : en < b
                · have hN2 := HEN.out
                  have hml := HP1.out.length_eq
                  rw [List.length_append] at hml
                  have hL1 : ((X ++ M1) ++ (U2 ++ (V2 ++ Y))).length = N := by
                    rw [← HLL.out]
                    simp only [List.length_append]
                    omega
                  have cR := Lib.hid (HIH.out (X ++ M1) U2 V2 Y mid en b w2 (by rw [List.length_append]; omega) (by omega) (by omega) (by omega) (by omega) (by omega) HU.out.right HV.out.right (fun x hx y hy => HC.out x (List.mem_append_right _ hx) y (List.mem_append_right _ hy)) (fun x hx => HXN.out x (List.mem_append_right _ hx)) (fun x hx => HYN.out x (List.mem_append_right _ hx)) hL1 (by have h := HS2.out; simp only [List.append_assoc] at h ⊢; exact h))
                  unfold cmpF at cR
                  clear hN2 hL1 hml
                  go_wp2_with fail
                  refine cR.out.mono ?_; rintro er w3 ⟨rfl, M2, hM2, hP2, hs3⟩
                  have HS3 := Lib.hid hs3
                  have HFN := Lib.hid (mid_srt HCUT.out HM1.out hM2 HP1.out hP2)
                  clear hs3 hM2 hP2 cR HS2 hr1 hr2
                  go_wp2
                  refine bodyPost_end (v := .tuple #[]) (by simp [results, Try.results71]) rfl ?_
                  refine ⟨rfl, M1 ++ M2, HFN.out.1, HFN.out.2, ?_⟩
                  have h := HS3.out
                  simp only [List.append_assoc] at h ⊢
                  exact h
                · have hN2 := HEN.out
                  have HFN := Lib.hid (mid_srt HCUT.out HM1.out (one_srt HU.out.right HV.out.right (.inr (by omega))) HP1.out (List.Perm.refl _))
                  clear hN2
                  go_wp2
                  refine bodyPost_end (v := .tuple #[]) (by simp [results, Try.results71]) rfl ?_
                  refine ⟨rfl, M1 ++ (U2 ++ V2), HFN.out.1, HFN.out.2, ?_⟩
                  have h := HS2.out
                  simp only [List.append_assoc] at h ⊢
                  exact h
              · have hN2 := HEN.out
                have HFN := Lib.hid (mid_srt HCUT.out HM1.out (one_srt HU.out.right HV.out.right (.inl (by omega))) HP1.out (List.Perm.refl _))
                clear hN2
                go_wp2
                refine bodyPost_end (v := .tuple #[]) (by simp [results, Try.results71]) rfl ?_
                refine ⟨rfl, M1 ++ (U2 ++ V2), HFN.out.1, HFN.out.2, ?_⟩
                have h := HS2.out
                simp only [List.append_assoc] at h ⊢
                exact h
          · have hs1 := HS.out
            rw [norot _ _ _ _ _ _ (.inr (by have := HEN.out; omega))] at hs1
            have HS1 := Lib.hid hs1
            clear hs1 HS
            obtain ⟨w1, rfl⟩ : ∃ w1, w1 = wr := ⟨_, rfl⟩
            go_upto_region 41 with (fail)
            clear hr1 hr2
            by_cases hr1 : a < st
            · by_cases hr2 : st < mid
              · have hN2 := HEN.out
                have hL1 : (X ++ (U1 ++ (V1 ++ ((U2 ++ V2) ++ Y)))).length = N := by
                  rw [← HLL.out]
                  simp only [List.length_append]
                  omega
                have cR := Lib.hid (HIH.out X U1 V1 ((U2 ++ V2) ++ Y) a st mid w1 (by omega) (by omega) (by omega) (by omega) (by omega) (by omega) HU.out.left HV.out.left (fun x hx y hy => HC.out x (List.mem_append_left _ hx) y (List.mem_append_left _ hy)) (fun x hx => HXN.out x (List.mem_append_left _ hx)) (fun x hx => HYN.out x (List.mem_append_left _ hx)) hL1 (by have h := HS1.out; rw [List.append_assoc] at h; exact h))
                unfold cmpF at cR
                clear hN2 hL1
                go_wp2_with fail
                refine cR.out.mono ?_; rintro er w2 ⟨rfl, M1, hM1, hP1, hs2⟩
                have HM1 := Lib.hid hM1
                have HP1 := Lib.hid hP1
                have HS2 := Lib.hid hs2
                clear hs2 hM1 hP1 cR HS1 hr1 hr2
                by_cases hr1 : mid < en
                · by_cases hr2 : en < b
                  · have hN2 := HEN.out
                    have hml := HP1.out.length_eq
                    rw [List.length_append] at hml
                    have hL1 : ((X ++ M1) ++ (U2 ++ (V2 ++ Y))).length = N := by
                      rw [← HLL.out]
                      simp only [List.length_append]
                      omega
                    have cR := Lib.hid (HIH.out (X ++ M1) U2 V2 Y mid en b w2 (by rw [List.length_append]; omega) (by omega) (by omega) (by omega) (by omega) (by omega) HU.out.right HV.out.right (fun x hx y hy => HC.out x (List.mem_append_right _ hx) y (List.mem_append_right _ hy)) (fun x hx => HXN.out x (List.mem_append_right _ hx)) (fun x hx => HYN.out x (List.mem_append_right _ hx)) hL1 (by have h := HS2.out; simp only [List.append_assoc] at h ⊢; exact h))
                    unfold cmpF at cR
                    clear hN2 hL1 hml
                    go_wp2_with fail
                    refine cR.out.mono ?_; rintro er w3 ⟨rfl, M2, hM2, hP2, hs3⟩
                    have HS3 := Lib.hid hs3
                    have HFN := Lib.hid (mid_srt HCUT.out HM1.out hM2 HP1.out hP2)
                    clear hs3 hM2 hP2 cR HS2 hr1 hr2
                    go_wp2
                    refine bodyPost_end (v := .tuple #[]) (by simp [results, Try.results71]) rfl ?_
                    refine ⟨rfl, M1 ++ M2, HFN.out.1, HFN.out.2, ?_⟩
                    have h := HS3.out
                    simp only [List.append_assoc] at h ⊢
                    exact h
                  · have hN2 := HEN.out
                    have HFN := Lib.hid (mid_srt HCUT.out HM1.out (one_srt HU.out.right HV.out.right (.inr (by omega))) HP1.out (List.Perm.refl _))
                    clear hN2
                    go_wp2
                    refine bodyPost_end (v := .tuple #[]) (by simp [results, Try.results71]) rfl ?_
                    refine ⟨rfl, M1 ++ (U2 ++ V2), HFN.out.1, HFN.out.2, ?_⟩
                    have h := HS2.out
                    simp only [List.append_assoc] at h ⊢
                    exact h
                · have hN2 := HEN.out
                  have HFN := Lib.hid (mid_srt HCUT.out HM1.out (one_srt HU.out.right HV.out.right (.inl (by omega))) HP1.out (List.Perm.refl _))
                  clear hN2
                  go_wp2
                  refine bodyPost_end (v := .tuple #[]) (by simp [results, Try.results71]) rfl ?_
                  refine ⟨rfl, M1 ++ (U2 ++ V2), HFN.out.1, HFN.out.2, ?_⟩
                  have h := HS2.out
                  simp only [List.append_assoc] at h ⊢
                  exact h
              · have hN2 := HEN.out
                have HM1 := Lib.hid (one_srt HU.out.left HV.out.left (.inr (by omega)))
                have HP1 := Lib.hid (List.Perm.refl (U1 ++ V1))
                obtain ⟨M1, hM1⟩ : ∃ M1, M1 = U1 ++ V1 := ⟨_, rfl⟩
                rw [← hM1] at HM1 HS1
                have HP1 : Hid (M1.Perm (U1 ++ V1)) := Lib.hid (by rw [hM1])
                have HS2 := HS1
                clear hN2 hM1 HS1
                obtain ⟨w2, rfl⟩ : ∃ w2, w2 = w1 := ⟨_, rfl⟩
                go_upto_region 43 with (fail)
                clear hr1 hr2
                by_cases hr1 : mid < en
                · by_cases hr2 : en < b
                  · have hN2 := HEN.out
                    have hml := HP1.out.length_eq
                    rw [List.length_append] at hml
                    have hL1 : ((X ++ M1) ++ (U2 ++ (V2 ++ Y))).length = N := by
                      rw [← HLL.out]
                      simp only [List.length_append]
                      omega
                    have cR := Lib.hid (HIH.out (X ++ M1) U2 V2 Y mid en b w2 (by rw [List.length_append]; omega) (by omega) (by omega) (by omega) (by omega) (by omega) HU.out.right HV.out.right (fun x hx y hy => HC.out x (List.mem_append_right _ hx) y (List.mem_append_right _ hy)) (fun x hx => HXN.out x (List.mem_append_right _ hx)) (fun x hx => HYN.out x (List.mem_append_right _ hx)) hL1 (by have h := HS2.out; simp only [List.append_assoc] at h ⊢; exact h))
                    unfold cmpF at cR
                    clear hN2 hL1 hml
                    go_wp2_with fail
                    refine cR.out.mono ?_; rintro er w3 ⟨rfl, M2, hM2, hP2, hs3⟩
                    have HS3 := Lib.hid hs3
                    have HFN := Lib.hid (mid_srt HCUT.out HM1.out hM2 HP1.out hP2)
                    clear hs3 hM2 hP2 cR HS2 hr1 hr2
                    go_wp2
                    refine bodyPost_end (v := .tuple #[]) (by simp [results, Try.results71]) rfl ?_
                    refine ⟨rfl, M1 ++ M2, HFN.out.1, HFN.out.2, ?_⟩
                    have h := HS3.out
                    simp only [List.append_assoc] at h ⊢
                    exact h
                  · have hN2 := HEN.out
                    have HFN := Lib.hid (mid_srt HCUT.out HM1.out (one_srt HU.out.right HV.out.right (.inr (by omega))) HP1.out (List.Perm.refl _))
                    clear hN2
                    go_wp2
                    refine bodyPost_end (v := .tuple #[]) (by simp [results, Try.results71]) rfl ?_
                    refine ⟨rfl, M1 ++ (U2 ++ V2), HFN.out.1, HFN.out.2, ?_⟩
                    have h := HS2.out
                    simp only [List.append_assoc] at h ⊢
                    exact h
                · have hN2 := HEN.out
                  have HFN := Lib.hid (mid_srt HCUT.out HM1.out (one_srt HU.out.right HV.out.right (.inl (by omega))) HP1.out (List.Perm.refl _))
                  clear hN2
                  go_wp2
                  refine bodyPost_end (v := .tuple #[]) (by simp [results, Try.results71]) rfl ?_
                  refine ⟨rfl, M1 ++ (U2 ++ V2), HFN.out.1, HFN.out.2, ?_⟩
                  have h := HS2.out
                  simp only [List.append_assoc] at h ⊢
                  exact h
            · have hN2 := HEN.out
              have HM1 := Lib.hid (one_srt HU.out.left HV.out.left (.inl (by omega)))
              obtain ⟨M1, hM1⟩ : ∃ M1, M1 = U1 ++ V1 := ⟨_, rfl⟩
              rw [← hM1] at HM1 HS1
              have HP1 : Hid (M1.Perm (U1 ++ V1)) := Lib.hid (by rw [hM1])
              have HS2 := HS1
              clear hN2 hM1 HS1
              obtain ⟨w2, rfl⟩ : ∃ w2, w2 = w1 := ⟨_, rfl⟩
              go_upto_region 43 with (fail)
              clear hr1
              by_cases hr1 : mid < en
              · by_cases hr2 : en < b
                · have hN2 := HEN.out
                  have hml := HP1.out.length_eq
                  rw [List.length_append] at hml
                  have hL1 : ((X ++ M1) ++ (U2 ++ (V2 ++ Y))).length = N := by
                    rw [← HLL.out]
                    simp only [List.length_append]
                    omega
                  have cR := Lib.hid (HIH.out (X ++ M1) U2 V2 Y mid en b w2 (by rw [List.length_append]; omega) (by omega) (by omega) (by omega) (by omega) (by omega) HU.out.right HV.out.right (fun x hx y hy => HC.out x (List.mem_append_right _ hx) y (List.mem_append_right _ hy)) (fun x hx => HXN.out x (List.mem_append_right _ hx)) (fun x hx => HYN.out x (List.mem_append_right _ hx)) hL1 (by have h := HS2.out; simp only [List.append_assoc] at h ⊢; exact h))
                  unfold cmpF at cR
                  clear hN2 hL1 hml
                  go_wp2_with fail
                  refine cR.out.mono ?_; rintro er w3 ⟨rfl, M2, hM2, hP2, hs3⟩
                  have HS3 := Lib.hid hs3
                  have HFN := Lib.hid (mid_srt HCUT.out HM1.out hM2 HP1.out hP2)
                  clear hs3 hM2 hP2 cR HS2 hr1 hr2
                  go_wp2
                  refine bodyPost_end (v := .tuple #[]) (by simp [results, Try.results71]) rfl ?_
                  refine ⟨rfl, M1 ++ M2, HFN.out.1, HFN.out.2, ?_⟩
                  have h := HS3.out
                  simp only [List.append_assoc] at h ⊢
                  exact h
                · have hN2 := HEN.out
                  have HFN := Lib.hid (mid_srt HCUT.out HM1.out (one_srt HU.out.right HV.out.right (.inr (by omega))) HP1.out (List.Perm.refl _))
                  clear hN2
                  go_wp2
                  refine bodyPost_end (v := .tuple #[]) (by simp [results, Try.results71]) rfl ?_
                  refine ⟨rfl, M1 ++ (U2 ++ V2), HFN.out.1, HFN.out.2, ?_⟩
                  have h := HS2.out
                  simp only [List.append_assoc] at h ⊢
                  exact h
              · have hN2 := HEN.out
                have HFN := Lib.hid (mid_srt HCUT.out HM1.out (one_srt HU.out.right HV.out.right (.inl (by omega))) HP1.out (List.Perm.refl _))
                clear hN2
                go_wp2
                refine bodyPost_end (v := .tuple #[]) (by simp [results, Try.results71]) rfl ?_
                refine ⟨rfl, M1 ++ (U2 ++ V2), HFN.out.1, HFN.out.2, ?_⟩
                have h := HS2.out
                simp only [List.append_assoc] at h ⊢
                exact h
        · have hs1 := HS.out
          rw [norot _ _ _ _ _ _ (.inl (by have := HEN.out; omega))] at hs1
          have HS1 := Lib.hid hs1
          clear hs1 HS
          obtain ⟨w1, rfl⟩ : ∃ w1, w1 = wr := ⟨_, rfl⟩
          go_upto_region 41 with (fail)
          clear hr1
          by_cases hr1 : a < st
          · by_cases hr2 : st < mid
            · have hN2 := HEN.out
              have hL1 : (X ++ (U1 ++ (V1 ++ ((U2 ++ V2) ++ Y)))).length = N := by
                rw [← HLL.out]
                simp only [List.length_append]
                omega
              have cR := Lib.hid (HIH.out X U1 V1 ((U2 ++ V2) ++ Y) a st mid w1 (by omega) (by omega) (by omega) (by omega) (by omega) (by omega) HU.out.left HV.out.left (fun x hx y hy => HC.out x (List.mem_append_left _ hx) y (List.mem_append_left _ hy)) (fun x hx => HXN.out x (List.mem_append_left _ hx)) (fun x hx => HYN.out x (List.mem_append_left _ hx)) hL1 (by have h := HS1.out; rw [List.append_assoc] at h; exact h))
              unfold cmpF at cR
              clear hN2 hL1
              go_wp2_with fail
              refine cR.out.mono ?_; rintro er w2 ⟨rfl, M1, hM1, hP1, hs2⟩
              have HM1 := Lib.hid hM1
              have HP1 := Lib.hid hP1
              have HS2 := Lib.hid hs2
              clear hs2 hM1 hP1 cR HS1 hr1 hr2
              by_cases hr1 : mid < en
              · by_cases hr2 : en < b
                · have hN2 := HEN.out
                  have hml := HP1.out.length_eq
                  rw [List.length_append] at hml
                  have hL1 : ((X ++ M1) ++ (U2 ++ (V2 ++ Y))).length = N := by
                    rw [← HLL.out]
                    simp only [List.length_append]
                    omega
                  have cR := Lib.hid (HIH.out (X ++ M1) U2 V2 Y mid en b w2 (by rw [List.length_append]; omega) (by omega) (by omega) (by omega) (by omega) (by omega) HU.out.right HV.out.right (fun x hx y hy => HC.out x (List.mem_append_right _ hx) y (List.mem_append_right _ hy)) (fun x hx => HXN.out x (List.mem_append_right _ hx)) (fun x hx => HYN.out x (List.mem_append_right _ hx)) hL1 (by have h := HS2.out; simp only [List.append_assoc] at h ⊢; exact h))
                  unfold cmpF at cR
                  clear hN2 hL1 hml
                  go_wp2_with fail
                  refine cR.out.mono ?_; rintro er w3 ⟨rfl, M2, hM2, hP2, hs3⟩
                  have HS3 := Lib.hid hs3
                  have HFN := Lib.hid (mid_srt HCUT.out HM1.out hM2 HP1.out hP2)
                  clear hs3 hM2 hP2 cR HS2 hr1 hr2
                  go_wp2
                  refine bodyPost_end (v := .tuple #[]) (by simp [results, Try.results71]) rfl ?_
                  refine ⟨rfl, M1 ++ M2, HFN.out.1, HFN.out.2, ?_⟩
                  have h := HS3.out
                  simp only [List.append_assoc] at h ⊢
                  exact h
                · have hN2 := HEN.out
                  have HFN := Lib.hid (mid_srt HCUT.out HM1.out (one_srt HU.out.right HV.out.right (.inr (by omega))) HP1.out (List.Perm.refl _))
                  clear hN2
                  go_wp2
                  refine bodyPost_end (v := .tuple #[]) (by simp [results, Try.results71]) rfl ?_
                  refine ⟨rfl, M1 ++ (U2 ++ V2), HFN.out.1, HFN.out.2, ?_⟩
                  have h := HS2.out
                  simp only [List.append_assoc] at h ⊢
                  exact h
              · have hN2 := HEN.out
                have HFN := Lib.hid (mid_srt HCUT.out HM1.out (one_srt HU.out.right HV.out.right (.inl (by omega))) HP1.out (List.Perm.refl _))
                clear hN2
                go_wp2
                refine bodyPost_end (v := .tuple #[]) (by simp [results, Try.results71]) rfl ?_
                refine ⟨rfl, M1 ++ (U2 ++ V2), HFN.out.1, HFN.out.2, ?_⟩
                have h := HS2.out
                simp only [List.append_assoc] at h ⊢
                exact h
            · have hN2 := HEN.out
              have HM1 := Lib.hid (one_srt HU.out.left HV.out.left (.inr (by omega)))
              have HP1 := Lib.hid (List.Perm.refl (U1 ++ V1))
              obtain ⟨M1, hM1⟩ : ∃ M1, M1 = U1 ++ V1 := ⟨_, rfl⟩
              rw [← hM1] at HM1 HS1
              have HP1 : Hid (M1.Perm (U1 ++ V1)) := Lib.hid (by rw [hM1])
              have HS2 := HS1
              clear hN2 hM1 HS1
              obtain ⟨w2, rfl⟩ : ∃ w2, w2 = w1 := ⟨_, rfl⟩
              go_upto_region 43 with (fail)
              clear hr1 hr2
              by_cases hr1 : mid < en
              · by_cases hr2 : en < b
                · have hN2 := HEN.out
                  have hml := HP1.out.length_eq
                  rw [List.length_append] at hml
                  have hL1 : ((X ++ M1) ++ (U2 ++ (V2 ++ Y))).length = N := by
                    rw [← HLL.out]
                    simp only [List.length_append]
                    omega
                  have cR := Lib.hid (HIH.out (X ++ M1) U2 V2 Y mid en b w2 (by rw [List.length_append]; omega) (by omega) (by omega) (by omega) (by omega) (by omega) HU.out.right HV.out.right (fun x hx y hy => HC.out x (List.mem_append_right _ hx) y (List.mem_append_right _ hy)) (fun x hx => HXN.out x (List.mem_append_right _ hx)) (fun x hx => HYN.out x (List.mem_append_right _ hx)) hL1 (by have h := HS2.out; simp only [List.append_assoc] at h ⊢; exact h))
                  unfold cmpF at cR
                  clear hN2 hL1 hml
                  go_wp2_with fail
                  refine cR.out.mono ?_; rintro er w3 ⟨rfl, M2, hM2, hP2, hs3⟩
                  have HS3 := Lib.hid hs3
                  have HFN := Lib.hid (mid_srt HCUT.out HM1.out hM2 HP1.out hP2)
                  clear hs3 hM2 hP2 cR HS2 hr1 hr2
                  go_wp2
                  refine bodyPost_end (v := .tuple #[]) (by simp [results, Try.results71]) rfl ?_
                  refine ⟨rfl, M1 ++ M2, HFN.out.1, HFN.out.2, ?_⟩
                  have h := HS3.out
                  simp only [List.append_assoc] at h ⊢
                  exact h
                · have hN2 := HEN.out
                  have HFN := Lib.hid (mid_srt HCUT.out HM1.out (one_srt HU.out.right HV.out.right (.inr (by omega))) HP1.out (List.Perm.refl _))
                  clear hN2
                  go_wp2
                  refine bodyPost_end (v := .tuple #[]) (by simp [results, Try.results71]) rfl ?_
                  refine ⟨rfl, M1 ++ (U2 ++ V2), HFN.out.1, HFN.out.2, ?_⟩
                  have h := HS2.out
                  simp only [List.append_assoc] at h ⊢
                  exact h
              · have hN2 := HEN.out
                have HFN := Lib.hid (mid_srt HCUT.out HM1.out (one_srt HU.out.right HV.out.right (.inl (by omega))) HP1.out (List.Perm.refl _))
                clear hN2
                go_wp2
                refine bodyPost_end (v := .tuple #[]) (by simp [results, Try.results71]) rfl ?_
                refine ⟨rfl, M1 ++ (U2 ++ V2), HFN.out.1, HFN.out.2, ?_⟩
                have h := HS2.out
                simp only [List.append_assoc] at h ⊢
                exact h
          · have hN2 := HEN.out
            have HM1 := Lib.hid (one_srt HU.out.left HV.out.left (.inl (by omega)))
            obtain ⟨M1, hM1⟩ : ∃ M1, M1 = U1 ++ V1 := ⟨_, rfl⟩
            rw [← hM1] at HM1 HS1
            have HP1 : Hid (M1.Perm (U1 ++ V1)) := Lib.hid (by rw [hM1])
            have HS2 := HS1
            clear hN2 hM1 HS1
            obtain ⟨w2, rfl⟩ : ∃ w2, w2 = w1 := ⟨_, rfl⟩
            go_upto_region 43 with (fail)
            clear hr1
            by_cases hr1 : mid < en
            · by_cases hr2 : en < b
              · have hN2 := HEN.out
                have hml := HP1.out.length_eq
                rw [List.length_append] at hml
                have hL1 : ((X ++ M1) ++ (U2 ++ (V2 ++ Y))).length = N := by
                  rw [← HLL.out]
                  simp only [List.length_append]
                  omega
                have cR := Lib.hid (HIH.out (X ++ M1) U2 V2 Y mid en b w2 (by rw [List.length_append]; omega) (by omega) (by omega) (by omega) (by omega) (by omega) HU.out.right HV.out.right (fun x hx y hy => HC.out x (List.mem_append_right _ hx) y (List.mem_append_right _ hy)) (fun x hx => HXN.out x (List.mem_append_right _ hx)) (fun x hx => HYN.out x (List.mem_append_right _ hx)) hL1 (by have h := HS2.out; simp only [List.append_assoc] at h ⊢; exact h))
                unfold cmpF at cR
                clear hN2 hL1 hml
                go_wp2_with fail
                refine cR.out.mono ?_; rintro er w3 ⟨rfl, M2, hM2, hP2, hs3⟩
                have HS3 := Lib.hid hs3
                have HFN := Lib.hid (mid_srt HCUT.out HM1.out hM2 HP1.out hP2)
                clear hs3 hM2 hP2 cR HS2 hr1 hr2
                go_wp2
                refine bodyPost_end (v := .tuple #[]) (by simp [results, Try.results71]) rfl ?_
                refine ⟨rfl, M1 ++ M2, HFN.out.1, HFN.out.2, ?_⟩
                have h := HS3.out
                simp only [List.append_assoc] at h ⊢
                exact h
              · have hN2 := HEN.out
                have HFN := Lib.hid (mid_srt HCUT.out HM1.out (one_srt HU.out.right HV.out.right (.inr (by omega))) HP1.out (List.Perm.refl _))
                clear hN2
                go_wp2
                refine bodyPost_end (v := .tuple #[]) (by simp [results, Try.results71]) rfl ?_
                refine ⟨rfl, M1 ++ (U2 ++ V2), HFN.out.1, HFN.out.2, ?_⟩
                have h := HS2.out
                simp only [List.append_assoc] at h ⊢
                exact h
            · have hN2 := HEN.out
              have HFN := Lib.hid (mid_srt HCUT.out HM1.out (one_srt HU.out.right HV.out.right (.inl (by omega))) HP1.out (List.Perm.refl _))
              clear hN2
              go_wp2
              refine bodyPost_end (v := .tuple #[]) (by simp [results, Try.results71]) rfl ?_
              refine ⟨rfl, M1 ++ (U2 ++ V2), HFN.out.1, HFN.out.2, ?_⟩
              have h := HS2.out
              simp only [List.append_assoc] at h ⊢
              exact h
  · have q2 : a ≤ m := by omega
    have HQ : Hid (a ≤ a ∧ a ≤ m ∧ m ≤ m ∧ m ≤ mid ∧ nn ≤ a + b ∧ (a = a ∨ nn = a + b) ∧ (m = m ∨ m = mid)) := Lib.hid ⟨by omega, by omega, by omega, by omega, by omega, .inl rfl, .inl rfl⟩
    clear ha hm hb hk hu1 hv1 hul hvl hsab hmid hnn hp hE IH hs hU hV hC hxn hyn hl
    go_enter Try.func71, Try.ntmps71
    go_wp2
    clear k1 k2 k3 k4 k5 k6 k7 k8 b1 b2 b3
    go_loopg [20, 21] (m - a) (fun g vs vr wr => ∃ (st r : Nat), a ≤ st ∧ st ≤ r ∧ r ≤ m ∧ g = r - st ∧ vs = .int .i64 st ∧ vr = .int .i64 r ∧ Hid (st = a ∨ ∃ x y, U[st - 1 - a]? = some x ∧ V[nn - st - m]? = some y ∧ qq l y x = false) ∧ Hid (r = m ∨ ∃ x y, U[r - a]? = some x ∧ V[nn - 1 - r - m]? = some y ∧ qq l y x = true) ∧ Sep w0 wr (sR A N c (X ++ (U ++ (V ++ Y))) :: boxI gl B n cl :: J))
    case atStart => exact ⟨a, m, Nat.le_refl _, q2, Nat.le_refl _, rfl, rfl, rfl, Lib.hid (.inl rfl), Lib.hid (.inl rfl), HS.out⟩
    case round =>
      clear HS
      obtain ⟨st, r, h1, h2, h3, rfl, rfl, rfl, HI, HJ, hs⟩ := hrel
      have HS := Lib.hid hs
      clear hs
      have hFA := HFA.out
      have hQ := HQ.out
      by_cases hij : st < r
      · obtain ⟨h, hh⟩ : ∃ h, h = (st + r) / 2 := ⟨_, rfl⟩
        obtain ⟨sj, hsj⟩ : ∃ sj, sj = st + r := ⟨_, rfl⟩
        obtain ⟨pc, hpc⟩ : ∃ pc, pc + h = p := ⟨p - h, by omega⟩
        have k2 : (st : Int) + (r : Int) = (sj : Int) := by omega
        have k3 : sj ≤ 8192 := by omega
        have k4 : (sj : Int) / 2 = (h : Int) := by omega
        have k5 : (p : Int) - (h : Int) = (pc : Int) := by omega
        have h4 : st ≤ 4096 := by omega
        have h5 : r ≤ 4096 := by omega
        have hhi1 : st ≤ h := by omega
        have hhi2 : h < r := by omega
        obtain ⟨x, hx⟩ := get_some (V := U) (k := h - a) (by omega)
        obtain ⟨y, hy⟩ := get_some (V := V) (k := pc - m) (by omega)
        have px := ncell_at ((at_u X U (V ++ Y) (a := h) (show h - a < U.length by omega) (by omega)).trans hx)
        have py := ncell_at ((at_v X U V Y (a := pc) (show pc - m < V.length by omega) (by omega)).trans hy)
        have hxn : x < n := HXN.out x (List.mem_of_getElem? hx)
        have hyn : y < n := HYN.out y (List.mem_of_getElem? hy)
        have HX := Lib.hid hx
        have HY := Lib.hid hy
        obtain ⟨g6, rfl, _, hat⟩ := HS.out.rowAt 0 rfl (by omega)
        have d0 := fun z : LaterOf wr => z.cell ((hat _).1 _ px)
        have e0 := fun z : LaterOf wr => z.cell ((hat _).1 _ py)
        have i0 : (0 : Int) ≤ (h : Int) := by omega
        have i1 : (h : Int) < (N : Int) := by omega
        have i2 : (0 : Int) ≤ (pc : Int) := by omega
        have i3 : (pc : Int) < (N : Int) := by omega
        have i4 : pc ≤ 4096 := by omega
        have i5 : h ≤ 4096 := by omega
        have z1 : a ≤ h + 1 := by omega
        have z2 : h + 1 ≤ r := by omega
        have z3 : h ≤ m := by omega
        have z4 : r - (h + 1) < r - st := by omega
        have z5 : h - st < r - st := by omega
        have z6 : nn - (h + 1) - m = pc - m := by omega
        have z7 : nn - 1 - h - m = pc - m := by omega
        have HZ6 := Lib.hid z6
        have HZ7 := Lib.hid z7
        have cC := Lib.hid (cmp_later (A := B) HE.out HS.out y x hyn hxn)
        obtain ⟨rz, hrz⟩ : ∃ rz, rz = cmpZ l y x := ⟨_, rfl⟩
        rw [← hrz] at cC
        have HRZ := Lib.hid hrz
        clear hat px py hrz hx hy hFA hQ hh hsj hpc z6 z7 q2 hmm
        go_upto_region 35 with (fail)
        by_cases hq : rz < 0
        · have HQ2 : Hid (h = m ∨ ∃ x y, U[h - a]? = some x ∧ V[nn - 1 - h - m]? = some y ∧ qq l y x = true) := Lib.hid (.inr ⟨x, y, HX.out, by rw [HZ7.out]; exact HY.out, by unfold qq; rw [← HRZ.out]; exact decide_eq_true hq⟩)
          refine wp_region_later (by kernel_rfl) (by kernel_rfl) ?_
          repeat (go_big_quiet_step (with_reducible exact Calls.later (cC.out _)))
          refine wpQuiet_nil ?_; intro xw hw'; obtain ⟨xq, hw''⟩ := hw'; obtain ⟨xw0, xh⟩ := xq; change xw = xw0 at hw''; subst hw''
          have HSx := Lib.hid (HS.out.later xh)
          clear d0 e0 cC HS xh HJ
          go_wp2
          go_roundg (h - st)
          case measure => exact z5
          case rel => exact ⟨st, h, h1, hhi1, z3, rfl, rfl, rfl, HI, HQ2, HSx.out⟩
        · have HQ2 : Hid (h + 1 = a ∨ ∃ x y, U[h + 1 - 1 - a]? = some x ∧ V[nn - (h + 1) - m]? = some y ∧ qq l y x = false) := Lib.hid (.inr ⟨x, y, HX.out, by rw [HZ6.out]; exact HY.out, by unfold qq; rw [← HRZ.out]; exact decide_eq_false hq⟩)
          refine wp_region_later (by kernel_rfl) (by kernel_rfl) ?_
          repeat (go_big_quiet_step (with_reducible exact Calls.later (cC.out _)))
          refine wpQuiet_nil ?_; intro xw hw'; obtain ⟨xq, hw''⟩ := hw'; obtain ⟨xw0, xh⟩ := xq; change xw = xw0 at hw''; subst hw''
          have HSx := Lib.hid (HS.out.later xh)
          clear d0 e0 cC HS xh HI
          go_wp2
          go_roundg (r - (h + 1))
          case measure => exact z4
          case rel => exact ⟨h + 1, r, z1, z2, h3, rfl, by go_num, rfl, HQ2, HJ, HSx.out⟩
      · obtain rfl : st = r := by omega
        obtain ⟨en, hen⟩ : ∃ en, en + st = nn := ⟨nn - st, by omega⟩
        have k1 : (nn : Int) - (st : Int) = (en : Int) := by omega
        have b8 : en ≤ 4096 := by omega
        have b9 : st ≤ 4096 := by omega
        have hk1 := Stb.sym_cut (le_ord l) HU.out HV.out HC.out (s := st - a) (t := en - m) (by omega) (by omega) (by
          rcases HI.out with h | ⟨x, y, hx, hy, hq⟩
          · rcases hQ.2.2.2.2.2.1 with h' | h'
            · exact .inl (by omega)
            · exact .inr (.inl (by omega))
          · exact .inr (.inr ⟨x, y, by rw [show st - a - 1 = st - 1 - a by omega]; exact hx, by rw [show en - m = nn - st - m by omega]; exact hy, hq⟩)) (by
          rcases HJ.out with h | ⟨x, y, hx, hy, hq⟩
          · rcases hQ.2.2.2.2.2.2 with h' | h'
            · exact .inl (by omega)
            · exact .inr (.inl (by omega))
          · exact .inr (.inr ⟨x, y, hx, by rw [show en - m - 1 = nn - 1 - st - m by omega]; exact hy, hq⟩))
        obtain ⟨U1, U2, rfl, hU1⟩ := Stb.split_at U (st - a) (by omega)
        obtain ⟨V1, V2, rfl, hV1⟩ := Stb.split_at V (en - m) (by omega)
        rw [List.take_left' hU1, List.take_left' hV1, List.drop_left' hU1, List.drop_left' hV1] at hk1
        have HCUT := Lib.hid hk1
        simp only [List.length_append] at hFA
        have HEN : Hid (X.length = a ∧ a + U1.length = st ∧ st + U2.length = m ∧ m + V1.length = en ∧ en + V2.length = b ∧ st + V1.length = mid ∧ mid + U2.length = en ∧ U1.length + U2.length + (V1.length + V2.length) ≤ k + 1 ∧ 0 < U1.length + V1.length ∧ 0 < U2.length + V2.length) := Lib.hid ⟨by omega, by omega, by omega, by omega, by omega, by omega, by omega, by omega, by omega, by omega⟩
        clear HI HJ hFA hQ hen hU1 hV1 hk1 HFA HQ h1 h2 h3 hij q2 hmm
        go_upto_region 39 with (fail)
        clear k1
        by_cases hr1 : st < m
        · by_cases hr2 : m < en
          · have hN2 := HEN.out
            have cR := Lib.hid (rot_any A N c m (m - st) (en - m) _ _ _ (cmpF gl) w0 wr HS.out HLL.out hN (rot_of X U1 U2 V1 V2 Y (i := m - st) (j := en - m) (by omega) (by omega) (by omega)) (by omega) (by omega))
            rw [show m - (m - st) = st by omega, show m + (en - m) = en by omega] at cR
            unfold cmpF at cR
            clear hN2
            go_wp2_with fail
            refine cR.out.mono ?_; rintro er w1 ⟨rfl, hs1⟩
            have HS1 := Lib.hid hs1
            clear hs1 cR HS hr1 hr2
            by_cases hr1 : a < st
            · by_cases hr2 : st < mid
              · have hN2 := HEN.out
                have hL1 : (X ++ (U1 ++ (V1 ++ ((U2 ++ V2) ++ Y)))).length = N := by
                  rw [← HLL.out]
                  simp only [List.length_append]
                  omega
                have cR := Lib.hid (HIH.out X U1 V1 ((U2 ++ V2) ++ Y) a st mid w1 (by omega) (by omega) (by omega) (by omega) (by omega) (by omega) HU.out.left HV.out.left (fun x hx y hy => HC.out x (List.mem_append_left _ hx) y (List.mem_append_left _ hy)) (fun x hx => HXN.out x (List.mem_append_left _ hx)) (fun x hx => HYN.out x (List.mem_append_left _ hx)) hL1 (by have h := HS1.out; rw [List.append_assoc] at h; exact h))
                unfold cmpF at cR
                clear hN2 hL1
                go_wp2_with fail
                refine cR.out.mono ?_; rintro er w2 ⟨rfl, M1, hM1, hP1, hs2⟩
                have HM1 := Lib.hid hM1
                have HP1 := Lib.hid hP1
                have HS2 := Lib.hid hs2
                clear hs2 hM1 hP1 cR HS1 hr1 hr2
                by_cases hr1 : mid < en
                · by_cases hr2 : en < b
                  · have hN2 := HEN.out
                    have hml := HP1.out.length_eq
                    rw [List.length_append] at hml
                    have hL1 : ((X ++ M1) ++ (U2 ++ (V2 ++ Y))).length = N := by
                      rw [← HLL.out]
                      simp only [List.length_append]
                      omega
                    have cR := Lib.hid (HIH.out (X ++ M1) U2 V2 Y mid en b w2 (by rw [List.length_append]; omega) (by omega) (by omega) (by omega) (by omega) (by omega) HU.out.right HV.out.right (fun x hx y hy => HC.out x (List.mem_append_right _ hx) y (List.mem_append_right _ hy)) (fun x hx => HXN.out x (List.mem_append_right _ hx)) (fun x hx => HYN.out x (List.mem_append_right _ hx)) hL1 (by have h := HS2.out; simp only [List.append_assoc] at h ⊢; exact h))
                    unfold cmpF at cR
                    clear hN2 hL1 hml
                    go_wp2_with fail
                    refine cR.out.mono ?_; rintro er w3 ⟨rfl, M2, hM2, hP2, hs3⟩
                    have HS3 := Lib.hid hs3
                    have HFN := Lib.hid (mid_srt HCUT.out HM1.out hM2 HP1.out hP2)
                    clear hs3 hM2 hP2 cR HS2 hr1 hr2
                    go_wp2
                    refine bodyPost_end (v := .tuple #[]) (by simp [results, Try.results71]) rfl ?_
                    refine ⟨rfl, M1 ++ M2, HFN.out.1, HFN.out.2, ?_⟩
                    have h := HS3.out
                    simp only [List.append_assoc] at h ⊢
                    exact h
                  · have hN2 := HEN.out
                    have HFN := Lib.hid (mid_srt HCUT.out HM1.out (one_srt HU.out.right HV.out.right (.inr (by omega))) HP1.out (List.Perm.refl _))
                    clear hN2
                    go_wp2
                    refine bodyPost_end (v := .tuple #[]) (by simp [results, Try.results71]) rfl ?_
                    refine ⟨rfl, M1 ++ (U2 ++ V2), HFN.out.1, HFN.out.2, ?_⟩
                    have h := HS2.out
                    simp only [List.append_assoc] at h ⊢
                    exact h
                · have hN2 := HEN.out
                  have HFN := Lib.hid (mid_srt HCUT.out HM1.out (one_srt HU.out.right HV.out.right (.inl (by omega))) HP1.out (List.Perm.refl _))
                  clear hN2
                  go_wp2
                  refine bodyPost_end (v := .tuple #[]) (by simp [results, Try.results71]) rfl ?_
                  refine ⟨rfl, M1 ++ (U2 ++ V2), HFN.out.1, HFN.out.2, ?_⟩
                  have h := HS2.out
                  simp only [List.append_assoc] at h ⊢
                  exact h
              · have hN2 := HEN.out
                have HM1 := Lib.hid (one_srt HU.out.left HV.out.left (.inr (by omega)))
                have HP1 := Lib.hid (List.Perm.refl (U1 ++ V1))
                obtain ⟨M1, hM1⟩ : ∃ M1, M1 = U1 ++ V1 := ⟨_, rfl⟩
                rw [← hM1] at HM1 HS1
                have HP1 : Hid (M1.Perm (U1 ++ V1)) := Lib.hid (by rw [hM1])
                have HS2 := HS1
                clear hN2 hM1 HS1
                obtain ⟨w2, rfl⟩ : ∃ w2, w2 = w1 := ⟨_, rfl⟩
                go_upto_region 43 with (fail)
                clear hr1 hr2
                by_cases hr1 : mid < en
                · by_cases hr2 : en < b
                  · have hN2 := HEN.out
                    have hml := HP1.out.length_eq
                    rw [List.length_append] at hml
                    have hL1 : ((X ++ M1) ++ (U2 ++ (V2 ++ Y))).length = N := by
                      rw [← HLL.out]
                      simp only [List.length_append]
                      omega
                    have cR := Lib.hid (HIH.out (X ++ M1) U2 V2 Y mid en b w2 (by rw [List.length_append]; omega) (by omega) (by omega) (by omega) (by omega) (by omega) HU.out.right HV.out.right (fun x hx y hy => HC.out x (List.mem_append_right _ hx) y (List.mem_append_right _ hy)) (fun x hx => HXN.out x (List.mem_append_right _ hx)) (fun x hx => HYN.out x (List.mem_append_right _ hx)) hL1 (by have h := HS2.out; simp only [List.append_assoc] at h ⊢; exact h))
                    unfold cmpF at cR
                    clear hN2 hL1 hml
                    go_wp2_with fail
                    refine cR.out.mono ?_; rintro er w3 ⟨rfl, M2, hM2, hP2, hs3⟩
                    have HS3 := Lib.hid hs3
                    have HFN := Lib.hid (mid_srt HCUT.out HM1.out hM2 HP1.out hP2)
                    clear hs3 hM2 hP2 cR HS2 hr1 hr2
                    go_wp2
                    refine bodyPost_end (v := .tuple #[]) (by simp [results, Try.results71]) rfl ?_
                    refine ⟨rfl, M1 ++ M2, HFN.out.1, HFN.out.2, ?_⟩
                    have h := HS3.out
                    simp only [List.append_assoc] at h ⊢
                    exact h
                  · have hN2 := HEN.out
                    have HFN := Lib.hid (mid_srt HCUT.out HM1.out (one_srt HU.out.right HV.out.right (.inr (by omega))) HP1.out (List.Perm.refl _))
                    clear hN2
                    go_wp2
                    refine bodyPost_end (v := .tuple #[]) (by simp [results, Try.results71]) rfl ?_
                    refine ⟨rfl, M1 ++ (U2 ++ V2), HFN.out.1, HFN.out.2, ?_⟩
                    have h := HS2.out
                    simp only [List.append_assoc] at h ⊢
                    exact h
                · have hN2 := HEN.out
                  have HFN := Lib.hid (mid_srt HCUT.out HM1.out (one_srt HU.out.right HV.out.right (.inl (by omega))) HP1.out (List.Perm.refl _))
                  clear hN2
                  go_wp2
                  refine bodyPost_end (v := .tuple #[]) (by simp [results, Try.results71]) rfl ?_
                  refine ⟨rfl, M1 ++ (U2 ++ V2), HFN.out.1, HFN.out.2, ?_⟩
                  have h := HS2.out
                  simp only [List.append_assoc] at h ⊢
                  exact h
            · have hN2 := HEN.out
              have HM1 := Lib.hid (one_srt HU.out.left HV.out.left (.inl (by omega)))
              obtain ⟨M1, hM1⟩ : ∃ M1, M1 = U1 ++ V1 := ⟨_, rfl⟩
              rw [← hM1] at HM1 HS1
              have HP1 : Hid (M1.Perm (U1 ++ V1)) := Lib.hid (by rw [hM1])
              have HS2 := HS1
              clear hN2 hM1 HS1
              obtain ⟨w2, rfl⟩ : ∃ w2, w2 = w1 := ⟨_, rfl⟩
              go_upto_region 43 with (fail)
              clear hr1
              by_cases hr1 : mid < en
              · by_cases hr2 : en < b
                · have hN2 := HEN.out
                  have hml := HP1.out.length_eq
                  rw [List.length_append] at hml
                  have hL1 : ((X ++ M1) ++ (U2 ++ (V2 ++ Y))).length = N := by
                    rw [← HLL.out]
                    simp only [List.length_append]
                    omega
                  have cR := Lib.hid (HIH.out (X ++ M1) U2 V2 Y mid en b w2 (by rw [List.length_append]; omega) (by omega) (by omega) (by omega) (by omega) (by omega) HU.out.right HV.out.right (fun x hx y hy => HC.out x (List.mem_append_right _ hx) y (List.mem_append_right _ hy)) (fun x hx => HXN.out x (List.mem_append_right _ hx)) (fun x hx => HYN.out x (List.mem_append_right _ hx)) hL1 (by have h := HS2.out; simp only [List.append_assoc] at h ⊢; exact h))
                  unfold cmpF at cR
                  clear hN2 hL1 hml
                  go_wp2_with fail
                  refine cR.out.mono ?_; rintro er w3 ⟨rfl, M2, hM2, hP2, hs3⟩
                  have HS3 := Lib.hid hs3
                  have HFN := Lib.hid (mid_srt HCUT.out HM1.out hM2 HP1.out hP2)
                  clear hs3 hM2 hP2 cR HS2 hr1 hr2
                  go_wp2
                  refine bodyPost_end (v := .tuple #[]) (by simp [results, Try.results71]) rfl ?_
                  refine ⟨rfl, M1 ++ M2, HFN.out.1, HFN.out.2, ?_⟩
                  have h := HS3.out
                  simp only [List.append_assoc] at h ⊢
                  exact h
                · have hN2 := HEN.out
                  have HFN := Lib.hid (mid_srt HCUT.out HM1.out (one_srt HU.out.right HV.out.right (.inr (by omega))) HP1.out (List.Perm.refl _))
                  clear hN2
                  go_wp2
                  refine bodyPost_end (v := .tuple #[]) (by simp [results, Try.results71]) rfl ?_
                  refine ⟨rfl, M1 ++ (U2 ++ V2), HFN.out.1, HFN.out.2, ?_⟩
                  have h := HS2.out
                  simp only [List.append_assoc] at h ⊢
                  exact h
              · have hN2 := HEN.out
                have HFN := Lib.hid (mid_srt HCUT.out HM1.out (one_srt HU.out.right HV.out.right (.inl (by omega))) HP1.out (List.Perm.refl _))
                clear hN2
                go_wp2
                refine bodyPost_end (v := .tuple #[]) (by simp [results, Try.results71]) rfl ?_
                refine ⟨rfl, M1 ++ (U2 ++ V2), HFN.out.1, HFN.out.2, ?_⟩
                have h := HS2.out
                simp only [List.append_assoc] at h ⊢
                exact h
          · have hs1 := HS.out
            rw [norot _ _ _ _ _ _ (.inr (by have := HEN.out; omega))] at hs1
            have HS1 := Lib.hid hs1
            clear hs1 HS
            obtain ⟨w1, rfl⟩ : ∃ w1, w1 = wr := ⟨_, rfl⟩
            go_upto_region 41 with (fail)
            clear hr1 hr2
            by_cases hr1 : a < st
            · by_cases hr2 : st < mid
              · have hN2 := HEN.out
                have hL1 : (X ++ (U1 ++ (V1 ++ ((U2 ++ V2) ++ Y)))).length = N := by
                  rw [← HLL.out]
                  simp only [List.length_append]
                  omega
                have cR := Lib.hid (HIH.out X U1 V1 ((U2 ++ V2) ++ Y) a st mid w1 (by omega) (by omega) (by omega) (by omega) (by omega) (by omega) HU.out.left HV.out.left (fun x hx y hy => HC.out x (List.mem_append_left _ hx) y (List.mem_append_left _ hy)) (fun x hx => HXN.out x (List.mem_append_left _ hx)) (fun x hx => HYN.out x (List.mem_append_left _ hx)) hL1 (by have h := HS1.out; rw [List.append_assoc] at h; exact h))
                unfold cmpF at cR
                clear hN2 hL1
                go_wp2_with fail
                refine cR.out.mono ?_; rintro er w2 ⟨rfl, M1, hM1, hP1, hs2⟩
                have HM1 := Lib.hid hM1
                have HP1 := Lib.hid hP1
                have HS2 := Lib.hid hs2
                clear hs2 hM1 hP1 cR HS1 hr1 hr2
                by_cases hr1 : mid < en
                · by_cases hr2 : en < b
                  · have hN2 := HEN.out
                    have hml := HP1.out.length_eq
                    rw [List.length_append] at hml
                    have hL1 : ((X ++ M1) ++ (U2 ++ (V2 ++ Y))).length = N := by
                      rw [← HLL.out]
                      simp only [List.length_append]
                      omega
                    have cR := Lib.hid (HIH.out (X ++ M1) U2 V2 Y mid en b w2 (by rw [List.length_append]; omega) (by omega) (by omega) (by omega) (by omega) (by omega) HU.out.right HV.out.right (fun x hx y hy => HC.out x (List.mem_append_right _ hx) y (List.mem_append_right _ hy)) (fun x hx => HXN.out x (List.mem_append_right _ hx)) (fun x hx => HYN.out x (List.mem_append_right _ hx)) hL1 (by have h := HS2.out; simp only [List.append_assoc] at h ⊢; exact h))
                    unfold cmpF at cR
                    clear hN2 hL1 hml
                    go_wp2_with fail
                    refine cR.out.mono ?_; rintro er w3 ⟨rfl, M2, hM2, hP2, hs3⟩
                    have HS3 := Lib.hid hs3
                    have HFN := Lib.hid (mid_srt HCUT.out HM1.out hM2 HP1.out hP2)
                    clear hs3 hM2 hP2 cR HS2 hr1 hr2
                    go_wp2
                    refine bodyPost_end (v := .tuple #[]) (by simp [results, Try.results71]) rfl ?_
                    refine ⟨rfl, M1 ++ M2, HFN.out.1, HFN.out.2, ?_⟩
                    have h := HS3.out
                    simp only [List.append_assoc] at h ⊢
                    exact h
                  · have hN2 := HEN.out
                    have HFN := Lib.hid (mid_srt HCUT.out HM1.out (one_srt HU.out.right HV.out.right (.inr (by omega))) HP1.out (List.Perm.refl _))
                    clear hN2
                    go_wp2
                    refine bodyPost_end (v := .tuple #[]) (by simp [results, Try.results71]) rfl ?_
                    refine ⟨rfl, M1 ++ (U2 ++ V2), HFN.out.1, HFN.out.2, ?_⟩
                    have h := HS2.out
                    simp only [List.append_assoc] at h ⊢
                    exact h
                · have hN2 := HEN.out
                  have HFN := Lib.hid (mid_srt HCUT.out HM1.out (one_srt HU.out.right HV.out.right (.inl (by omega))) HP1.out (List.Perm.refl _))
                  clear hN2
                  go_wp2
                  refine bodyPost_end (v := .tuple #[]) (by simp [results, Try.results71]) rfl ?_
                  refine ⟨rfl, M1 ++ (U2 ++ V2), HFN.out.1, HFN.out.2, ?_⟩
                  have h := HS2.out
                  simp only [List.append_assoc] at h ⊢
                  exact h
              · have hN2 := HEN.out
                have HM1 := Lib.hid (one_srt HU.out.left HV.out.left (.inr (by omega)))
                have HP1 := Lib.hid (List.Perm.refl (U1 ++ V1))
                obtain ⟨M1, hM1⟩ : ∃ M1, M1 = U1 ++ V1 := ⟨_, rfl⟩
                rw [← hM1] at HM1 HS1
                have HP1 : Hid (M1.Perm (U1 ++ V1)) := Lib.hid (by rw [hM1])
                have HS2 := HS1
                clear hN2 hM1 HS1
                obtain ⟨w2, rfl⟩ : ∃ w2, w2 = w1 := ⟨_, rfl⟩
                go_upto_region 43 with (fail)
                clear hr1 hr2
                by_cases hr1 : mid < en
                · by_cases hr2 : en < b
                  · have hN2 := HEN.out
                    have hml := HP1.out.length_eq
                    rw [List.length_append] at hml
                    have hL1 : ((X ++ M1) ++ (U2 ++ (V2 ++ Y))).length = N := by
                      rw [← HLL.out]
                      simp only [List.length_append]
                      omega
                    have cR := Lib.hid (HIH.out (X ++ M1) U2 V2 Y mid en b w2 (by rw [List.length_append]; omega) (by omega) (by omega) (by omega) (by omega) (by omega) HU.out.right HV.out.right (fun x hx y hy => HC.out x (List.mem_append_right _ hx) y (List.mem_append_right _ hy)) (fun x hx => HXN.out x (List.mem_append_right _ hx)) (fun x hx => HYN.out x (List.mem_append_right _ hx)) hL1 (by have h := HS2.out; simp only [List.append_assoc] at h ⊢; exact h))
                    unfold cmpF at cR
                    clear hN2 hL1 hml
                    go_wp2_with fail
                    refine cR.out.mono ?_; rintro er w3 ⟨rfl, M2, hM2, hP2, hs3⟩
                    have HS3 := Lib.hid hs3
                    have HFN := Lib.hid (mid_srt HCUT.out HM1.out hM2 HP1.out hP2)
                    clear hs3 hM2 hP2 cR HS2 hr1 hr2
                    go_wp2
                    refine bodyPost_end (v := .tuple #[]) (by simp [results, Try.results71]) rfl ?_
                    refine ⟨rfl, M1 ++ M2, HFN.out.1, HFN.out.2, ?_⟩
                    have h := HS3.out
                    simp only [List.append_assoc] at h ⊢
                    exact h
                  · have hN2 := HEN.out
                    have HFN := Lib.hid (mid_srt HCUT.out HM1.out (one_srt HU.out.right HV.out.right (.inr (by omega))) HP1.out (List.Perm.refl _))
                    clear hN2
                    go_wp2
                    refine bodyPost_end (v := .tuple #[]) (by simp [results, Try.results71]) rfl ?_
                    refine ⟨rfl, M1 ++ (U2 ++ V2), HFN.out.1, HFN.out.2, ?_⟩
                    have h := HS2.out
                    simp only [List.append_assoc] at h ⊢
                    exact h
                · have hN2 := HEN.out
                  have HFN := Lib.hid (mid_srt HCUT.out HM1.out (one_srt HU.out.right HV.out.right (.inl (by omega))) HP1.out (List.Perm.refl _))
                  clear hN2
                  go_wp2
                  refine bodyPost_end (v := .tuple #[]) (by simp [results, Try.results71]) rfl ?_
                  refine ⟨rfl, M1 ++ (U2 ++ V2), HFN.out.1, HFN.out.2, ?_⟩
                  have h := HS2.out
                  simp only [List.append_assoc] at h ⊢
                  exact h
            · have hN2 := HEN.out
              have HM1 := Lib.hid (one_srt HU.out.left HV.out.left (.inl (by omega)))
              obtain ⟨M1, hM1⟩ : ∃ M1, M1 = U1 ++ V1 := ⟨_, rfl⟩
              rw [← hM1] at HM1 HS1
              have HP1 : Hid (M1.Perm (U1 ++ V1)) := Lib.hid (by rw [hM1])
              have HS2 := HS1
              clear hN2 hM1 HS1
              obtain ⟨w2, rfl⟩ : ∃ w2, w2 = w1 := ⟨_, rfl⟩
              go_upto_region 43 with (fail)
              clear hr1
              by_cases hr1 : mid < en
              · by_cases hr2 : en < b
                · have hN2 := HEN.out
                  have hml := HP1.out.length_eq
                  rw [List.length_append] at hml
                  have hL1 : ((X ++ M1) ++ (U2 ++ (V2 ++ Y))).length = N := by
                    rw [← HLL.out]
                    simp only [List.length_append]
                    omega
                  have cR := Lib.hid (HIH.out (X ++ M1) U2 V2 Y mid en b w2 (by rw [List.length_append]; omega) (by omega) (by omega) (by omega) (by omega) (by omega) HU.out.right HV.out.right (fun x hx y hy => HC.out x (List.mem_append_right _ hx) y (List.mem_append_right _ hy)) (fun x hx => HXN.out x (List.mem_append_right _ hx)) (fun x hx => HYN.out x (List.mem_append_right _ hx)) hL1 (by have h := HS2.out; simp only [List.append_assoc] at h ⊢; exact h))
                  unfold cmpF at cR
                  clear hN2 hL1 hml
                  go_wp2_with fail
                  refine cR.out.mono ?_; rintro er w3 ⟨rfl, M2, hM2, hP2, hs3⟩
                  have HS3 := Lib.hid hs3
                  have HFN := Lib.hid (mid_srt HCUT.out HM1.out hM2 HP1.out hP2)
                  clear hs3 hM2 hP2 cR HS2 hr1 hr2
                  go_wp2
                  refine bodyPost_end (v := .tuple #[]) (by simp [results, Try.results71]) rfl ?_
                  refine ⟨rfl, M1 ++ M2, HFN.out.1, HFN.out.2, ?_⟩
                  have h := HS3.out
                  simp only [List.append_assoc] at h ⊢
                  exact h
                · have hN2 := HEN.out
                  have HFN := Lib.hid (mid_srt HCUT.out HM1.out (one_srt HU.out.right HV.out.right (.inr (by omega))) HP1.out (List.Perm.refl _))
                  clear hN2
                  go_wp2
                  refine bodyPost_end (v := .tuple #[]) (by simp [results, Try.results71]) rfl ?_
                  refine ⟨rfl, M1 ++ (U2 ++ V2), HFN.out.1, HFN.out.2, ?_⟩
                  have h := HS2.out
                  simp only [List.append_assoc] at h ⊢
                  exact h
              · have hN2 := HEN.out
                have HFN := Lib.hid (mid_srt HCUT.out HM1.out (one_srt HU.out.right HV.out.right (.inl (by omega))) HP1.out (List.Perm.refl _))
                clear hN2
                go_wp2
                refine bodyPost_end (v := .tuple #[]) (by simp [results, Try.results71]) rfl ?_
                refine ⟨rfl, M1 ++ (U2 ++ V2), HFN.out.1, HFN.out.2, ?_⟩
                have h := HS2.out
                simp only [List.append_assoc] at h ⊢
                exact h
        · have hs1 := HS.out
          rw [norot _ _ _ _ _ _ (.inl (by have := HEN.out; omega))] at hs1
          have HS1 := Lib.hid hs1
          clear hs1 HS
          obtain ⟨w1, rfl⟩ : ∃ w1, w1 = wr := ⟨_, rfl⟩
          go_upto_region 41 with (fail)
          clear hr1
          by_cases hr1 : a < st
          · by_cases hr2 : st < mid
            · have hN2 := HEN.out
              have hL1 : (X ++ (U1 ++ (V1 ++ ((U2 ++ V2) ++ Y)))).length = N := by
                rw [← HLL.out]
                simp only [List.length_append]
                omega
              have cR := Lib.hid (HIH.out X U1 V1 ((U2 ++ V2) ++ Y) a st mid w1 (by omega) (by omega) (by omega) (by omega) (by omega) (by omega) HU.out.left HV.out.left (fun x hx y hy => HC.out x (List.mem_append_left _ hx) y (List.mem_append_left _ hy)) (fun x hx => HXN.out x (List.mem_append_left _ hx)) (fun x hx => HYN.out x (List.mem_append_left _ hx)) hL1 (by have h := HS1.out; rw [List.append_assoc] at h; exact h))
              unfold cmpF at cR
              clear hN2 hL1
              go_wp2_with fail
              refine cR.out.mono ?_; rintro er w2 ⟨rfl, M1, hM1, hP1, hs2⟩
              have HM1 := Lib.hid hM1
              have HP1 := Lib.hid hP1
              have HS2 := Lib.hid hs2
              clear hs2 hM1 hP1 cR HS1 hr1 hr2
              by_cases hr1 : mid < en
              · by_cases hr2 : en < b
                · have hN2 := HEN.out
                  have hml := HP1.out.length_eq
                  rw [List.length_append] at hml
                  have hL1 : ((X ++ M1) ++ (U2 ++ (V2 ++ Y))).length = N := by
                    rw [← HLL.out]
                    simp only [List.length_append]
                    omega
                  have cR := Lib.hid (HIH.out (X ++ M1) U2 V2 Y mid en b w2 (by rw [List.length_append]; omega) (by omega) (by omega) (by omega) (by omega) (by omega) HU.out.right HV.out.right (fun x hx y hy => HC.out x (List.mem_append_right _ hx) y (List.mem_append_right _ hy)) (fun x hx => HXN.out x (List.mem_append_right _ hx)) (fun x hx => HYN.out x (List.mem_append_right _ hx)) hL1 (by have h := HS2.out; simp only [List.append_assoc] at h ⊢; exact h))
                  unfold cmpF at cR
                  clear hN2 hL1 hml
                  go_wp2_with fail
                  refine cR.out.mono ?_; rintro er w3 ⟨rfl, M2, hM2, hP2, hs3⟩
                  have HS3 := Lib.hid hs3
                  have HFN := Lib.hid (mid_srt HCUT.out HM1.out hM2 HP1.out hP2)
                  clear hs3 hM2 hP2 cR HS2 hr1 hr2
                  go_wp2
                  refine bodyPost_end (v := .tuple #[]) (by simp [results, Try.results71]) rfl ?_
                  refine ⟨rfl, M1 ++ M2, HFN.out.1, HFN.out.2, ?_⟩
                  have h := HS3.out
                  simp only [List.append_assoc] at h ⊢
                  exact h
                · have hN2 := HEN.out
                  have HFN := Lib.hid (mid_srt HCUT.out HM1.out (one_srt HU.out.right HV.out.right (.inr (by omega))) HP1.out (List.Perm.refl _))
                  clear hN2
                  go_wp2
                  refine bodyPost_end (v := .tuple #[]) (by simp [results, Try.results71]) rfl ?_
                  refine ⟨rfl, M1 ++ (U2 ++ V2), HFN.out.1, HFN.out.2, ?_⟩
                  have h := HS2.out
                  simp only [List.append_assoc] at h ⊢
                  exact h
              · have hN2 := HEN.out
                have HFN := Lib.hid (mid_srt HCUT.out HM1.out (one_srt HU.out.right HV.out.right (.inl (by omega))) HP1.out (List.Perm.refl _))
                clear hN2
                go_wp2
                refine bodyPost_end (v := .tuple #[]) (by simp [results, Try.results71]) rfl ?_
                refine ⟨rfl, M1 ++ (U2 ++ V2), HFN.out.1, HFN.out.2, ?_⟩
                have h := HS2.out
                simp only [List.append_assoc] at h ⊢
                exact h
            · have hN2 := HEN.out
              have HM1 := Lib.hid (one_srt HU.out.left HV.out.left (.inr (by omega)))
              have HP1 := Lib.hid (List.Perm.refl (U1 ++ V1))
              obtain ⟨M1, hM1⟩ : ∃ M1, M1 = U1 ++ V1 := ⟨_, rfl⟩
              rw [← hM1] at HM1 HS1
              have HP1 : Hid (M1.Perm (U1 ++ V1)) := Lib.hid (by rw [hM1])
              have HS2 := HS1
              clear hN2 hM1 HS1
              obtain ⟨w2, rfl⟩ : ∃ w2, w2 = w1 := ⟨_, rfl⟩
              go_upto_region 43 with (fail)
              clear hr1 hr2
              by_cases hr1 : mid < en
              · by_cases hr2 : en < b
                · have hN2 := HEN.out
                  have hml := HP1.out.length_eq
                  rw [List.length_append] at hml
                  have hL1 : ((X ++ M1) ++ (U2 ++ (V2 ++ Y))).length = N := by
                    rw [← HLL.out]
                    simp only [List.length_append]
                    omega
                  have cR := Lib.hid (HIH.out (X ++ M1) U2 V2 Y mid en b w2 (by rw [List.length_append]; omega) (by omega) (by omega) (by omega) (by omega) (by omega) HU.out.right HV.out.right (fun x hx y hy => HC.out x (List.mem_append_right _ hx) y (List.mem_append_right _ hy)) (fun x hx => HXN.out x (List.mem_append_right _ hx)) (fun x hx => HYN.out x (List.mem_append_right _ hx)) hL1 (by have h := HS2.out; simp only [List.append_assoc] at h ⊢; exact h))
                  unfold cmpF at cR
                  clear hN2 hL1 hml
                  go_wp2_with fail
                  refine cR.out.mono ?_; rintro er w3 ⟨rfl, M2, hM2, hP2, hs3⟩
                  have HS3 := Lib.hid hs3
                  have HFN := Lib.hid (mid_srt HCUT.out HM1.out hM2 HP1.out hP2)
                  clear hs3 hM2 hP2 cR HS2 hr1 hr2
                  go_wp2
                  refine bodyPost_end (v := .tuple #[]) (by simp [results, Try.results71]) rfl ?_
                  refine ⟨rfl, M1 ++ M2, HFN.out.1, HFN.out.2, ?_⟩
                  have h := HS3.out
                  simp only [List.append_assoc] at h ⊢
                  exact h
                · have hN2 := HEN.out
                  have HFN := Lib.hid (mid_srt HCUT.out HM1.out (one_srt HU.out.right HV.out.right (.inr (by omega))) HP1.out (List.Perm.refl _))
                  clear hN2
                  go_wp2
                  refine bodyPost_end (v := .tuple #[]) (by simp [results, Try.results71]) rfl ?_
                  refine ⟨rfl, M1 ++ (U2 ++ V2), HFN.out.1, HFN.out.2, ?_⟩
                  have h := HS2.out
                  simp only [List.append_assoc] at h ⊢
                  exact h
              · have hN2 := HEN.out
                have HFN := Lib.hid (mid_srt HCUT.out HM1.out (one_srt HU.out.right HV.out.right (.inl (by omega))) HP1.out (List.Perm.refl _))
                clear hN2
                go_wp2
                refine bodyPost_end (v := .tuple #[]) (by simp [results, Try.results71]) rfl ?_
                refine ⟨rfl, M1 ++ (U2 ++ V2), HFN.out.1, HFN.out.2, ?_⟩
                have h := HS2.out
                simp only [List.append_assoc] at h ⊢
                exact h
          · have hN2 := HEN.out
            have HM1 := Lib.hid (one_srt HU.out.left HV.out.left (.inl (by omega)))
            obtain ⟨M1, hM1⟩ : ∃ M1, M1 = U1 ++ V1 := ⟨_, rfl⟩
            rw [← hM1] at HM1 HS1
            have HP1 : Hid (M1.Perm (U1 ++ V1)) := Lib.hid (by rw [hM1])
            have HS2 := HS1
            clear hN2 hM1 HS1
            obtain ⟨w2, rfl⟩ : ∃ w2, w2 = w1 := ⟨_, rfl⟩
            go_upto_region 43 with (fail)
            clear hr1
            by_cases hr1 : mid < en
            · by_cases hr2 : en < b
              · have hN2 := HEN.out
                have hml := HP1.out.length_eq
                rw [List.length_append] at hml
                have hL1 : ((X ++ M1) ++ (U2 ++ (V2 ++ Y))).length = N := by
                  rw [← HLL.out]
                  simp only [List.length_append]
                  omega
                have cR := Lib.hid (HIH.out (X ++ M1) U2 V2 Y mid en b w2 (by rw [List.length_append]; omega) (by omega) (by omega) (by omega) (by omega) (by omega) HU.out.right HV.out.right (fun x hx y hy => HC.out x (List.mem_append_right _ hx) y (List.mem_append_right _ hy)) (fun x hx => HXN.out x (List.mem_append_right _ hx)) (fun x hx => HYN.out x (List.mem_append_right _ hx)) hL1 (by have h := HS2.out; simp only [List.append_assoc] at h ⊢; exact h))
                unfold cmpF at cR
                clear hN2 hL1 hml
                go_wp2_with fail
                refine cR.out.mono ?_; rintro er w3 ⟨rfl, M2, hM2, hP2, hs3⟩
                have HS3 := Lib.hid hs3
                have HFN := Lib.hid (mid_srt HCUT.out HM1.out hM2 HP1.out hP2)
                clear hs3 hM2 hP2 cR HS2 hr1 hr2
                go_wp2
                refine bodyPost_end (v := .tuple #[]) (by simp [results, Try.results71]) rfl ?_
                refine ⟨rfl, M1 ++ M2, HFN.out.1, HFN.out.2, ?_⟩
                have h := HS3.out
                simp only [List.append_assoc] at h ⊢
                exact h
              · have hN2 := HEN.out
                have HFN := Lib.hid (mid_srt HCUT.out HM1.out (one_srt HU.out.right HV.out.right (.inr (by omega))) HP1.out (List.Perm.refl _))
                clear hN2
                go_wp2
                refine bodyPost_end (v := .tuple #[]) (by simp [results, Try.results71]) rfl ?_
                refine ⟨rfl, M1 ++ (U2 ++ V2), HFN.out.1, HFN.out.2, ?_⟩
                have h := HS2.out
                simp only [List.append_assoc] at h ⊢
                exact h
            · have hN2 := HEN.out
              have HFN := Lib.hid (mid_srt HCUT.out HM1.out (one_srt HU.out.right HV.out.right (.inl (by omega))) HP1.out (List.Perm.refl _))
              clear hN2
              go_wp2
              refine bodyPost_end (v := .tuple #[]) (by simp [results, Try.results71]) rfl ?_
              refine ⟨rfl, M1 ++ (U2 ++ V2), HFN.out.1, HFN.out.2, ?_⟩
              have h := HS2.out
              simp only [List.append_assoc] at h ⊢
              exact h
end Vic
end Go.Proofs.Ytfljbiobiobamab
