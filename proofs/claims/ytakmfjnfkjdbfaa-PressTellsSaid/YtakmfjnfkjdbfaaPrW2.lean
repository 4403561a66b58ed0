/-
  Walk of press.Pack. Conditions: none.
-/
import Derived.Test.YtakmfjnfkjdbfaaPrW
import Derived.Test.YtakmfjnfkjdbfaaDelIns
namespace Go.Proofs.Ytakmfjnfkjdbfaa
open Go.RowKit
set_option linter.unusedVariables false
namespace Pr

theorem byte_info' : (Try.prog.info? 5).map (fun i => (i.zero, i.size, i.bytes)) = some (some (.int .u8 0), 1, 1) := by kernel_rfl
/-- bytes of the call's own, and what is wrong -/
def BytesRet (w : World) (o : List Nat) (e : Int) (en : Ending) (w' : World) : Prop :=
  ∃ A c, o.length ≤ c ∧ en = .returned (.tuple #[.slice A o.length c, .int .i64 e]) ∧ Sep w w' [.row 5 1 (.slice A o.length c) o.length (o.flatMap bcell)]
theorem rest_of {P : Program} {t e : TypeId} (ht' : P.underlying t = some (.slice e)) (hC : ∀ w, (sizeOf e).run P w = .ok 1 w) {w : World} {B n c k m : Nat} {A : Option Addr} {l : List Nat} (hr : Rd w B 1 A n (l.flatMap bcell)) (hc : n ≤ c) (hm : n = k + m) :
    ∃ A' c', (∀ W, (Instr.slice t (.slice A n c) (some (.int .i64 (k : Int))) none none).run P W = .ok (.slice A' m c') W) ∧ m ≤ c' ∧ Rd w B 1 A' m ((l.drop k).flatMap bcell) := by
  have h1 := from_run ht' hC A n c k (by omega)
  have h2 := rd_fromAddr hr (k := k) (by omega) hc
  rw [show n - k = m by omega] at h1 h2
  rw [flat_drop bcell_len] at h2
  exact ⟨_, _, h1, by omega, h2⟩
theorem rd_take {w : World} {B n k : Nat} {A : Option Addr} {l : List Nat} (hr : Rd w B 1 A n (l.flatMap bcell)) (hk : k ≤ n) : Rd w B 1 A k ((l.take k).flatMap bcell) := by
  refine ⟨?_, fun h0 => ?_⟩
  · rw [bcell_flat_len, List.length_take]
    have := hr.1
    rw [bcell_flat_len] at this
    omega
  · obtain ⟨b, off, e, hb, hc⟩ := hr.2 (by omega)
    refine ⟨b, off, e, hb, fun j u hj => hc j u ?_⟩
    have := flat_take bcell_len l k
    rw [Nat.mul_one] at this
    rw [← this, List.getElem?_take] at hj
    split at hj
    · exact hj
    · cases hj

set_option maxRecDepth 100000 in
set_option maxHeartbeats 800000 in
theorem pack_out (A : Option Addr) (n c : Nat) (w : World) (hn : 4096 < n) : Calls Try.prog 16 #[.slice A n c] w (BytesRet w [] 2) := by
  have h1 : (4096 : Int) < (n : Int) := by omega
  go_enter Try.func16, Try.ntmps16
  go_wp2
  refine bodyPost_ret (v := .tuple #[.slice none 0 0, .int .i64 2]) (by simp [results, Try.results16]) rfl ?_
  exact ⟨none, 0, Nat.le_refl _, rfl, (Sep.nil_ w).nilRow 5 1 none⟩

set_option maxRecDepth 100000 in
set_option maxHeartbeats 6400000 in
theorem pack_any (A : Option Addr) (n c : Nat) (l o : List Nat) (w : World) (hr : Rd w w.heap.size 1 A n (l.flatMap bcell)) (hl : l.length = n) (hnc : n ≤ c) (hn : n ≤ 4096) (hp : Pk [] l o) :
    Calls Try.prog 16 #[.slice A n c] w (BytesRet w o 0) := by
  obtain ⟨ti, hti, t0, t1, t2⟩ := info_parts byte_info'
  have HR := Lib.hid hr
  have HL := Lib.hid hl
  have HP := Lib.hid hp
  have n1 : ¬ (4096 : Int) < (n : Int) := by omega
  clear hr hl hp
  have S1 := Lib.hid ((Sep.nil_ w).nilRow 5 1 none)
  go_enter Try.func16, Try.ntmps16
  go_wp2
  go_loopg [0, 4] n (fun q v0 v4 wr => ∃ (A0 A4 : Option Addr) (nr cr no c4 : Nat) (rest out o1 : List Nat), q = nr ∧ v0 = .slice A0 nr cr ∧ v4 = .slice A4 no c4 ∧ nr ≤ cr ∧ no ≤ c4 ∧ nr ≤ n ∧ no + 2 * nr ≤ 2 * n ∧ Hid (rest.length = nr) ∧ Hid (out.length = no) ∧ Hid (Rd w w.heap.size 1 A0 nr (rest.flatMap bcell)) ∧ Hid (Pk [] rest o1) ∧ Hid (o = out ++ o1) ∧ Sep w wr [.row 5 1 (.slice A4 no c4) no (out.flatMap bcell)])
  case atStart => exact ⟨A, none, n, c, 0, 0, l, [], o, rfl, rfl, rfl, hnc, Nat.le_refl _, Nat.le_refl _, by omega, HL, Lib.hid rfl, HR, HP, Lib.hid rfl, S1.out⟩
  case round =>
    clear S1 HR HL HP
    obtain ⟨A0, A4, nr, cr, no, c4, rest, out, o1, rfl, rfl, rfl, hcr, hc4, hnr, hbd, HRL, HOL, HR0, HPK, HO, hs⟩ := hrel
    have HS := Lib.hid hs
    clear hs
    cases rest with
    | nil =>
      obtain rfl : gk = 0 := by simpa using HRL.out.symm
      have ho : o = out := by
        have h1 := HPK.out
        cases h1
        rw [HO.out]
        simp [fl]
      have HE := Lib.hid ho
      clear ho
      go_wp2
      refine bodyPost_ret (v := .tuple #[.slice A4 no c4, .int .i64 0]) (by simp [results, Try.results16]) rfl ?_
      unfold BytesRet
      rw [HE.out, HOL.out]
      exact ⟨A4, c4, hc4, rfl, HS.out⟩
    | cons x t =>
      have hlen : t.length + 1 = gk := by simpa using HRL.out
      have i1 : (0 : Int) < (gk : Int) := by omega
      obtain ⟨b, off, rfl, hb, hc⟩ := HR0.out.at_ bcell_len (by omega)
      have e0 := byte_at (k := 0) hb HS.out.below hc rfl
      obtain ⟨r1, r2, _, _⟩ := runL_is x t
      have r0 := runL_pos x t
      have cR := Lib.hid (run_any (some ⟨b, off, none⟩) gk cr x t wr (HR0.out.below HS.out.below |>.more HS.out.below.size) HRL.out (by omega))
      clear hc
      by_cases h3 : 3 ≤ runL (x :: t)
      · obtain ⟨o2, HO2, HP2⟩ : ∃ o2, Hid (o1 = (runL (x :: t) + 127) :: x :: o2) ∧ Hid (Pk [] ((x :: t).drop (runL (x :: t))) o2) := by
          have h1 := HPK.out
          cases h1 with
          | run h4 h5 => exact ⟨_, Lib.hid (by simp [fl]), Lib.hid h5⟩
          | plain h4 _ _ => omega
          | full h4 _ _ => omega
        clear HPK
        generalize hrr : runL (x :: t) = r at *
        obtain ⟨m, hm⟩ : ∃ m, gk = r + m := ⟨gk - r, by omega⟩
        obtain ⟨A1, cr1, hs1, hc1, hr1⟩ := rest_of (P := Try.prog) (m := m) Try.underlying33 (size_of_info hti t1) HR0.out hcr hm
        have HR1 := Lib.hid hr1
        have HM := Lib.hid hm
        clear hr1 hm hrr
        have j1 : (3 : Int) ≤ (r : Int) := by omega
        go_wp2_with fail
        refine cR.out.mono ?_; rintro en w1 ⟨rfl, hb1⟩
        have HS1 := Lib.hid (HS.out.later hb1)
        have e1 : w1.cell? ⟨b, off, none⟩ = some (.int .u8 (x : Int)) := (hb1.cell (World.block_lt_of_cell? wr _ e0)).trans e0
        clear hb1 HS cR e0
        obtain ⟨q, HQ⟩ : ∃ q : Nat, Hid (q = r + 127) := ⟨_, Lib.hid rfl⟩
        have kq : (r : Int) + 128 - 1 = (q : Int) := by rw [HQ.out]; omega
        have kb : q ≤ 255 := by have := HQ.out; omega
        have hnew := Lib.hid (Rd.of_own (own_new w1 5 #[.int .u8 (q : Int), .int .u8 (x : Int)] 1 2 rfl (by simp [maxLen]) (Nat.le_refl _)))
        go_wp2_with ((at_builtin; refine wpList_append_sep (HS1.out.alloc _) 0 rfl (.tmp 16) (.tmp 24) 33 rfl 5 ti (.int .u8 0) 1 1 Try.underlying33 hti t0 t1 t2 rfl (by omega) _ no _ rfl rfl _ _ 2 _ _ rfl hnew.out (by first | exact bcell_one _ | (simp [Value.oneCell'])) (by simp only [maxLen]; omega) (by omega) ?_; intro A6 c6 w6 hc6 hs6 H6'; have H6 := Lib.hid H6'; clear H6'))
        have HB : Hid (Sep w w6 [.row 5 1 (.slice A6 (no + 2) c6) (no + 2) ((out ++ [q, x]).flatMap bcell)]) := Lib.hid (by rw [List.flatMap_append]; exact H6.out)
        clear H6 HS1 hnew
        go_roundg m
        case measure => have := HM.out; omega
        case rel => exact ⟨A1, A6, m, cr1, no + 2, c6, (x :: t).drop r, out ++ [q, x], o2, rfl, rfl, rfl, hc1, hc6, by have := HM.out; omega, by have := HM.out; omega, Lib.hid (by rw [List.length_drop, HRL.out]; have := HM.out; omega), Lib.hid (by rw [List.length_append, HOL.out]; rfl), HR1, HP2, Lib.hid (by rw [HO.out, HO2.out, HQ.out]; simp), HB.out⟩
      · have j1 : ¬ (3 : Int) ≤ (runL (x :: t) : Int) := by omega
        generalize hrr : runL (x :: t) = r at cR j1 h3 r0
        have HRR := Lib.hid hrr
        clear hrr r1 r2
        go_wp2_with fail
        refine cR.out.mono ?_; rintro en w1 ⟨rfl, hb1⟩
        have HS1 := Lib.hid (HS.out.later hb1)
        clear hb1 HS cR e0
        go_wp2
        go_loopg [5] (gk + 1) (fun q v5 wr2 => ∃ (k : Nat) (o2 : List Nat), k ≤ gk ∧ k ≤ 128 ∧ v5 = .int .i64 k ∧ q = gk + 1 - k ∧ Hid ((k < 128 ∧ Pk ((x :: t).take k) ((x :: t).drop k) o1) ∨ (k = 128 ∧ o1 = fl ((x :: t).take k) ++ o2 ∧ Pk [] ((x :: t).drop k) o2)) ∧ Sep w wr2 [.row 5 1 (.slice A4 no c4) no (out.flatMap bcell)])
        case atStart => exact ⟨0, [], Nat.zero_le _, by omega, rfl, rfl, Lib.hid (.inl ⟨by omega, HPK.out⟩), HS1.out⟩
        case round =>
          clear HS1 w1
          obtain ⟨k, o3, hk, hk8, rfl, rfl, HST, hs⟩ := hrel
          have HS2 := Lib.hid hs
          clear hs
          by_cases hkn : k < gk
          · have q1 : (k : Int) < (gk : Int) := by omega
            by_cases hk1 : k < 128
            · have q2 : (k : Int) < 128 := by omega
              have hst := (HST.out.resolve_right (by omega)).2
              obtain ⟨y, tt, hd⟩ : ∃ y tt, (x :: t).drop k = y :: tt := by
                cases h : (x :: t).drop k with
                | nil =>
                  have := congrArg List.length h
                  rw [List.length_drop, HRL.out] at this
                  simp at this
                  omega
                | cons y tt => exact ⟨y, tt, rfl⟩
              obtain ⟨m2, hm2⟩ : ∃ m2, gk = k + m2 := ⟨gk - k, by omega⟩
              obtain ⟨A2, c2, hs2, hc2, hr2⟩ := rest_of (P := Try.prog) (m := m2) Try.underlying33 (size_of_info hti t1) HR0.out hcr hm2
              rw [hd] at hr2 hst
              have hlen2 : (y :: tt).length = m2 := by rw [← hd, List.length_drop, HRL.out]; omega
              have cR2 := Lib.hid (run_any A2 m2 c2 y tt wr (hr2.below HS2.out.below |>.more HS2.out.below.size) hlen2 (by omega))
              have htk : (x :: t).take (k + 1) = (x :: t).take k ++ [y] := by
                rw [List.take_add_one]
                congr 1
                have := congrArg (fun l => l[0]?) hd
                simp only [List.getElem?_drop, Nat.add_zero] at this
                rw [this]
                rfl
              have hdk : (x :: t).drop (k + 1) = tt := by
                rw [← List.drop_drop, hd]
                rfl
              have hpl : ((x :: t).take k).length = k := by rw [List.length_take, HRL.out]; omega
              by_cases h3' : runL (y :: tt) < 3
              · have HST2 : Hid (∃ o3', (k + 1 < 128 ∧ Pk ((x :: t).take (k + 1)) ((x :: t).drop (k + 1)) o1) ∨ (k + 1 = 128 ∧ o1 = fl ((x :: t).take (k + 1)) ++ o3' ∧ Pk [] ((x :: t).drop (k + 1)) o3')) := Lib.hid (by
                  rw [htk, hdk]
                  cases hst with
                  | run h4 _ => omega
                  | plain h4 h5 h6 => exact ⟨[], .inl ⟨by omega, h6⟩⟩
                  | full h4 h5 h6 => exact ⟨_, .inr ⟨by omega, rfl, h6⟩⟩)
                have q3 : (runL (y :: tt) : Int) < 3 := by omega
                clear hst hd hr2 hlen2 htk hdk hpl HST hm2
                generalize runL (y :: tt) = r2 at cR2 h3' q3
                go_wp2_with fail
                refine cR2.out.mono ?_; rintro en w2 ⟨rfl, hb2⟩
                have HS3 := Lib.hid (HS2.out.later hb2)
                clear hb2 HS2 cR2
                obtain ⟨o4, hst4⟩ := HST2.out
                have HST4 := Lib.hid hst4
                clear hst4 HST2
                go_wp2
                go_roundg (gk + 1 - (k + 1))
                case measure => omega
                case rel => exact ⟨k + 1, o4, by omega, by omega, by go_num, rfl, HST4, HS3.out⟩
              · have hx : 1 ≤ k ∧ ∃ o2, o1 = fl ((x :: t).take k) ++ o2 ∧ Pk [] ((x :: t).drop k) o2 := by
                  refine ⟨?_, ?_⟩
                  · rcases Nat.eq_zero_or_pos k with h0 | h0
                    · subst h0
                      rw [List.drop_zero] at hd
                      rw [← hd, HRR.out] at h3'
                      omega
                    · exact h0
                  · rw [hd]
                    cases hst with
                    | run h4 h5 =>
                      refine ⟨_, rfl, ?_⟩
                      have := Pk.run (p := []) h4 h5
                      simpa [fl] using this
                    | plain h4 _ _ => omega
                    | full h4 _ _ => omega
                have q3 : ¬ (runL (y :: tt) : Int) < 3 := by omega
                clear hst hd hr2 hlen2 htk hdk hpl HST hm2
                generalize runL (y :: tt) = r2 at cR2 h3' q3
                go_wp2_with fail
                refine cR2.out.mono ?_; rintro en w2 ⟨rfl, hb2⟩
                have HS3 := Lib.hid (HS2.out.later hb2)
                clear hb2 HS2 cR2 hs2 hc2
                have HS2 := HS3
                clear HS3
                go_upto_region 12 with (fail)
                generalize w2 = wr at *
                obtain ⟨hk1, o2, HO2, HP2⟩ := hx
                have HOO := Lib.hid HO2
                have HPP2 := Lib.hid HP2
                have HK1 := Lib.hid hk1
                clear HO2 HP2
                obtain ⟨m, hm⟩ : ∃ m, gk = k + m := ⟨gk - k, by omega⟩
                obtain ⟨A1, cr1, hs1, hc1, hr1⟩ := rest_of (P := Try.prog) (m := m) Try.underlying33 (size_of_info hti t1) HR0.out hcr hm
                have hs2 := upto_run (P := Try.prog) Try.underlying33 (size_of_info hti t1) (some ⟨b, off, none⟩) gk cr k (by omega)
                have HRT := Lib.hid (rd_take HR0.out (show k ≤ gk by omega))
                have HR1 := Lib.hid hr1
                have HM := Lib.hid hm
                clear hr1 hm
                obtain ⟨h, HH⟩ : ∃ h : Nat, Hid (k = h + 1) := ⟨k - 1, Lib.hid (by omega)⟩
                have kh : (k : Int) - 1 = (h : Int) := by rw [HH.out]; omega
                have kb : h ≤ 127 := by have := HH.out; omega
                have hnew := Lib.hid (Rd.of_own (own_new wr 5 #[.int .u8 (h : Int)] 1 1 rfl (by simp [maxLen]) (Nat.le_refl _)))
                have hb9 : no + 1 + k ≤ 12300 := by omega
                go_upto_region 13 with ((at_builtin; refine wpList_append_sep (HS2.out.alloc _) 0 rfl (.tmp 46) (.tmp 50) 33 rfl 5 ti (.int .u8 0) 1 1 Try.underlying33 hti t0 t1 t2 rfl (by omega) _ no _ rfl rfl _ _ 1 _ _ rfl hnew.out (by first | exact bcell_one _ | (simp [Value.oneCell'])) (by simp only [maxLen]; omega) (by omega) ?_; intro A6 c6 w6 hc6 hs6 H6'; have H6 := Lib.hid H6'; clear H6'))
                have HB : Hid (Sep w w6 [.row 5 1 (.slice A6 (no + 1) c6) (no + 1) ((out ++ [h]).flatMap bcell)]) := Lib.hid (by rw [List.flatMap_append]; exact H6.out)
                clear H6 HS2 hnew
                have HRT2 := Lib.hid (HRT.out.below HB.out.below |>.more HB.out.below.size)
                generalize hno : no + 1 = no1 at *
                go_upto_region 14 with ((at_builtin; refine wpList_append_sep HB.out 0 rfl (.tmp 52) (.tmp 55) 33 rfl 5 ti (.int .u8 0) 1 1 Try.underlying33 hti t0 t1 t2 rfl (by omega) _ no1 _ rfl rfl _ _ k _ _ rfl HRT2.out (by first | exact bcell_one _ | (simp [Value.oneCell'])) (by simp only [maxLen]; omega) (by omega) ?_; intro A6 c6 w6 hc6 hs6 H6'; have H6 := Lib.hid H6'; clear H6'))
                have HB2 : Hid (Sep w w6 [.row 5 1 (.slice A6 (no1 + k) c6) (no1 + k) ((out ++ fl ((x :: t).take k)).flatMap bcell)]) := Lib.hid (by
                  have e : fl ((x :: t).take k) = h :: (x :: t).take k := by
                    have hl : ((x :: t).take k).length = k := by rw [List.length_take, HRL.out]; omega
                    unfold fl
                    rw [if_neg (by intro h0; rw [h0] at hl; simp at hl; omega), hl, HH.out]
                    rfl
                  rw [e]
                  have := H6.out
                  rw [← List.flatMap_append] at this
                  simpa using this)
                clear H6 HB HRT2
                have HOL2 : Hid ((out ++ fl ((x :: t).take k)).length = no1 + k) := Lib.hid (by
                  have := (HB2.out.rowHas 0 rfl).1
                  rw [bcell_flat_len] at this
                  omega)
                go_wp2
                go_roundg m
                case measure => have := HM.out; omega
                case rel => exact ⟨A1, A6, m, cr1, no1 + k, c6, (x :: t).drop k, out ++ fl ((x :: t).take k), o2, rfl, rfl, rfl, hc1, hc6, by have := HM.out; omega, by have := HM.out; omega, Lib.hid (by rw [List.length_drop, HRL.out]; have := HM.out; omega), HOL2, HR1, HPP2, Lib.hid (by rw [HO.out, HOO.out, List.append_assoc]), HB2.out⟩
            · have q2 : ¬ (k : Int) < 128 := by omega
              have hx : 1 ≤ k ∧ ∃ o2, o1 = fl ((x :: t).take k) ++ o2 ∧ Pk [] ((x :: t).drop k) o2 := ⟨by omega, _, (HST.out.resolve_left (fun h => hk1 h.1)).2⟩
              clear HST
              obtain ⟨hk1, o2, HO2, HP2⟩ := hx
              have HOO := Lib.hid HO2
              have HPP2 := Lib.hid HP2
              have HK1 := Lib.hid hk1
              clear HO2 HP2
              obtain ⟨m, hm⟩ : ∃ m, gk = k + m := ⟨gk - k, by omega⟩
              obtain ⟨A1, cr1, hs1, hc1, hr1⟩ := rest_of (P := Try.prog) (m := m) Try.underlying33 (size_of_info hti t1) HR0.out hcr hm
              have hs2 := upto_run (P := Try.prog) Try.underlying33 (size_of_info hti t1) (some ⟨b, off, none⟩) gk cr k (by omega)
              have HRT := Lib.hid (rd_take HR0.out (show k ≤ gk by omega))
              have HR1 := Lib.hid hr1
              have HM := Lib.hid hm
              clear hr1 hm
              obtain ⟨h, HH⟩ : ∃ h : Nat, Hid (k = h + 1) := ⟨k - 1, Lib.hid (by omega)⟩
              have kh : (k : Int) - 1 = (h : Int) := by rw [HH.out]; omega
              have kb : h ≤ 127 := by have := HH.out; omega
              have hnew := Lib.hid (Rd.of_own (own_new wr 5 #[.int .u8 (h : Int)] 1 1 rfl (by simp [maxLen]) (Nat.le_refl _)))
              have hb9 : no + 1 + k ≤ 12300 := by omega
              go_upto_region 13 with ((at_builtin; refine wpList_append_sep (HS2.out.alloc _) 0 rfl (.tmp 46) (.tmp 50) 33 rfl 5 ti (.int .u8 0) 1 1 Try.underlying33 hti t0 t1 t2 rfl (by omega) _ no _ rfl rfl _ _ 1 _ _ rfl hnew.out (by first | exact bcell_one _ | (simp [Value.oneCell'])) (by simp only [maxLen]; omega) (by omega) ?_; intro A6 c6 w6 hc6 hs6 H6'; have H6 := Lib.hid H6'; clear H6'))
              have HB : Hid (Sep w w6 [.row 5 1 (.slice A6 (no + 1) c6) (no + 1) ((out ++ [h]).flatMap bcell)]) := Lib.hid (by rw [List.flatMap_append]; exact H6.out)
              clear H6 HS2 hnew
              have HRT2 := Lib.hid (HRT.out.below HB.out.below |>.more HB.out.below.size)
              generalize hno : no + 1 = no1 at *
              go_upto_region 14 with ((at_builtin; refine wpList_append_sep HB.out 0 rfl (.tmp 52) (.tmp 55) 33 rfl 5 ti (.int .u8 0) 1 1 Try.underlying33 hti t0 t1 t2 rfl (by omega) _ no1 _ rfl rfl _ _ k _ _ rfl HRT2.out (by first | exact bcell_one _ | (simp [Value.oneCell'])) (by simp only [maxLen]; omega) (by omega) ?_; intro A6 c6 w6 hc6 hs6 H6'; have H6 := Lib.hid H6'; clear H6'))
              have HB2 : Hid (Sep w w6 [.row 5 1 (.slice A6 (no1 + k) c6) (no1 + k) ((out ++ fl ((x :: t).take k)).flatMap bcell)]) := Lib.hid (by
                have e : fl ((x :: t).take k) = h :: (x :: t).take k := by
                  have hl : ((x :: t).take k).length = k := by rw [List.length_take, HRL.out]; omega
                  unfold fl
                  rw [if_neg (by intro h0; rw [h0] at hl; simp at hl; omega), hl, HH.out]
                  rfl
                rw [e]
                have := H6.out
                rw [← List.flatMap_append] at this
                simpa using this)
              clear H6 HB HRT2
              have HOL2 : Hid ((out ++ fl ((x :: t).take k)).length = no1 + k) := Lib.hid (by
                have := (HB2.out.rowHas 0 rfl).1
                rw [bcell_flat_len] at this
                omega)
              go_wp2
              go_roundg m
              case measure => have := HM.out; omega
              case rel => exact ⟨A1, A6, m, cr1, no1 + k, c6, (x :: t).drop k, out ++ fl ((x :: t).take k), o2, rfl, rfl, rfl, hc1, hc6, by have := HM.out; omega, by have := HM.out; omega, Lib.hid (by rw [List.length_drop, HRL.out]; have := HM.out; omega), HOL2, HR1, HPP2, Lib.hid (by rw [HO.out, HOO.out, List.append_assoc]), HB2.out⟩
          · have hkg : k = gk := by omega
            have hx : 1 ≤ k ∧ ∃ o2, o1 = fl ((x :: t).take k) ++ o2 ∧ Pk [] ((x :: t).drop k) o2 := by
              refine ⟨by omega, ?_⟩
              rcases HST.out with ⟨_, h⟩ | ⟨_, h1, h2⟩
              · have hd : (x :: t).drop k = [] := List.drop_of_length_le (by rw [HRL.out]; omega)
                rw [hd] at h ⊢
                cases h
                exact ⟨[], by simp, by have := Pk.done []; simpa [fl] using this⟩
              · exact ⟨_, h1, h2⟩
            have q1 : ¬ (k : Int) < (gk : Int) := by omega
            clear HST hkg
            obtain ⟨hk1, o2, HO2, HP2⟩ := hx
            have HOO := Lib.hid HO2
            have HPP2 := Lib.hid HP2
            have HK1 := Lib.hid hk1
            clear HO2 HP2
            obtain ⟨m, hm⟩ : ∃ m, gk = k + m := ⟨gk - k, by omega⟩
            obtain ⟨A1, cr1, hs1, hc1, hr1⟩ := rest_of (P := Try.prog) (m := m) Try.underlying33 (size_of_info hti t1) HR0.out hcr hm
            have hs2 := upto_run (P := Try.prog) Try.underlying33 (size_of_info hti t1) (some ⟨b, off, none⟩) gk cr k (by omega)
            have HRT := Lib.hid (rd_take HR0.out (show k ≤ gk by omega))
            have HR1 := Lib.hid hr1
            have HM := Lib.hid hm
            clear hr1 hm
            obtain ⟨h, HH⟩ : ∃ h : Nat, Hid (k = h + 1) := ⟨k - 1, Lib.hid (by omega)⟩
            have kh : (k : Int) - 1 = (h : Int) := by rw [HH.out]; omega
            have kb : h ≤ 127 := by have := HH.out; omega
            have hnew := Lib.hid (Rd.of_own (own_new wr 5 #[.int .u8 (h : Int)] 1 1 rfl (by simp [maxLen]) (Nat.le_refl _)))
            have hb9 : no + 1 + k ≤ 12300 := by omega
            go_upto_region 13 with ((at_builtin; refine wpList_append_sep (HS2.out.alloc _) 0 rfl (.tmp 46) (.tmp 50) 33 rfl 5 ti (.int .u8 0) 1 1 Try.underlying33 hti t0 t1 t2 rfl (by omega) _ no _ rfl rfl _ _ 1 _ _ rfl hnew.out (by first | exact bcell_one _ | (simp [Value.oneCell'])) (by simp only [maxLen]; omega) (by omega) ?_; intro A6 c6 w6 hc6 hs6 H6'; have H6 := Lib.hid H6'; clear H6'))
            have HB : Hid (Sep w w6 [.row 5 1 (.slice A6 (no + 1) c6) (no + 1) ((out ++ [h]).flatMap bcell)]) := Lib.hid (by rw [List.flatMap_append]; exact H6.out)
            clear H6 HS2 hnew
            have HRT2 := Lib.hid (HRT.out.below HB.out.below |>.more HB.out.below.size)
            generalize hno : no + 1 = no1 at *
            go_upto_region 14 with ((at_builtin; refine wpList_append_sep HB.out 0 rfl (.tmp 52) (.tmp 55) 33 rfl 5 ti (.int .u8 0) 1 1 Try.underlying33 hti t0 t1 t2 rfl (by omega) _ no1 _ rfl rfl _ _ k _ _ rfl HRT2.out (by first | exact bcell_one _ | (simp [Value.oneCell'])) (by simp only [maxLen]; omega) (by omega) ?_; intro A6 c6 w6 hc6 hs6 H6'; have H6 := Lib.hid H6'; clear H6'))
            have HB2 : Hid (Sep w w6 [.row 5 1 (.slice A6 (no1 + k) c6) (no1 + k) ((out ++ fl ((x :: t).take k)).flatMap bcell)]) := Lib.hid (by
              have e : fl ((x :: t).take k) = h :: (x :: t).take k := by
                have hl : ((x :: t).take k).length = k := by rw [List.length_take, HRL.out]; omega
                unfold fl
                rw [if_neg (by intro h0; rw [h0] at hl; simp at hl; omega), hl, HH.out]
                rfl
              rw [e]
              have := H6.out
              rw [← List.flatMap_append] at this
              simpa using this)
            clear H6 HB HRT2
            have HOL2 : Hid ((out ++ fl ((x :: t).take k)).length = no1 + k) := Lib.hid (by
              have := (HB2.out.rowHas 0 rfl).1
              rw [bcell_flat_len] at this
              omega)
            go_wp2
            go_roundg m
            case measure => have := HM.out; omega
            case rel => exact ⟨A1, A6, m, cr1, no1 + k, c6, (x :: t).drop k, out ++ fl ((x :: t).take k), o2, rfl, rfl, rfl, hc1, hc6, by have := HM.out; omega, by have := HM.out; omega, Lib.hid (by rw [List.length_drop, HRL.out]; have := HM.out; omega), HOL2, HR1, HPP2, Lib.hid (by rw [HO.out, HOO.out, List.append_assoc]), HB2.out⟩
end Pr
end Go.Proofs.Ytakmfjnfkjdbfaa
