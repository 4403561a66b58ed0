/-
  Walks of cell.Blank, Write, Force and the reference's CForce. Conditions: none beyond each theorem's own premises.
-/
import Derived.Test.YtakmfjnfkjdbfabCwW
namespace Go.Proofs.Ytakmfjnfkjdbfab
open Go.RowKit
set_option linter.unusedVariables false
namespace Cell

/-- what Blank answers, n within the limits: n bytes 255, that read so -/
def BlankRet (w : World) (k : Nat) (e : Ending) (w' : World) : Prop :=
  ∃ A c, k ≤ c ∧ e = .returned (.tuple #[.slice A k c, .int .i64 0]) ∧ Below w.heap.size w w' ∧ Rd w' w'.heap.size 1 A k ((List.replicate k 255).flatMap bcell)
theorem rep_flat (y : Nat) : ∀ q : Nat, (List.replicate q y).flatMap bcell = List.replicate q (.int .u8 (y : Int))
  | 0 => rfl
  | q + 1 => by rw [List.replicate_succ, List.replicate_succ, List.flatMap_cons, rep_flat y q]; rfl
set_option maxRecDepth 100000 in
set_option maxHeartbeats 1600000 in
theorem repeat_zero (A : Option Addr) (c : Nat) (w : World) : Calls Try.prog 49 #[.slice A 1 c, .int .i64 0] w (RepRet w 0 (.int .u8 255)) := by
  go_enter Try.func49, Try.ntmps49
  go_wp2
  go_ret
  exact ⟨_, 0, Nat.le_refl _, rfl, (Below.refl _ _).alloc (Nat.le_refl _) _, Rd.nil_⟩
set_option maxRecDepth 100000 in
set_option maxHeartbeats 1600000 in
theorem blank_out (n : Int) (w : World) (hn : n < 0 ∨ 4096 < n) : Calls Try.prog 12 #[.int .i64 n] w (Ret w (.tuple #[.slice none 0 0, .int .i64 2])) := by
  by_cases h0 : n < 0
  all_goals
    try have h1 : 4096 < n := by omega
    clear hn
    go_enter Try.func12, Try.ntmps12
    go_wp2
    refine bodyPost_ret (v := .tuple #[.slice none 0 0, .int .i64 2]) (by simp [results, Try.results12]) rfl ?_
    exact Ret.mk rfl (Below.refl _ _)
set_option maxRecDepth 100000 in
set_option maxHeartbeats 1600000 in
theorem blank_any (k : Nat) (w : World) (hk : k ≤ 4096) : Calls Try.prog 12 #[.int .i64 (k : Int)] w (BlankRet w k) := by
  have z1 : ¬ (k : Int) < 0 := by omega
  have z2 : ¬ (4096 : Int) < (k : Int) := by omega
  have z3 : ¬ 4096 < k := by omega
  have S1 : Hid (Sep w (w.alloc (.cells #[.int .u8 255] 5)) [.cells w.heap.size 5 [.int .u8 255]]) := Lib.hid ((Sep.nil_ w).new 5 [.int .u8 255])
  have cR : Hid (∀ V, Rd V V.heap.size 1 (some ⟨w.heap.size, 0, none⟩) 1 [.int .u8 255] → Calls Try.prog 49 #[.slice (some ⟨w.heap.size, 0, none⟩) 1 1, .int .i64 (k : Int)] V (RepRet V k (.int .u8 255))) := Lib.hid (fun V hV => by
    rcases Nat.eq_zero_or_pos k with h0 | h0
    · subst h0
      exact repeat_zero _ _ V
    · exact repeat_any _ 1 k 255 V hV h0 (by omega))
  go_enter Try.func12, Try.ntmps12
  go_wp2_with fail
  have hv0 : Rd (w.alloc (.cells #[.int .u8 255] 5)) (w.alloc (.cells #[.int .u8 255] 5)).heap.size 1 (some ⟨w.heap.size, 0, none⟩) 1 [.int .u8 255] := Rd.of_own (own_new w 5 #[.int .u8 255] 1 1 rfl (by simp [maxLen]) (Nat.le_refl _))
  refine (cR.out _ hv0).mono ?_; rintro en w1 ⟨A1, c1, hc1, rfl, hb1, hr1⟩
  have S2 := Lib.hid (S1.out.later hb1)
  have HR := Lib.hid hr1
  clear cR hv0 hb1 hr1 S1
  go_wp2
  refine bodyPost_ret (v := .tuple #[.slice A1 k c1, .int .i64 0]) (by simp [results, Try.results12]) rfl ?_
  exact ⟨A1, c1, hc1, rfl, S2.out.below, by rw [rep_flat]; exact HR.out⟩

/-- what Write answers -/
def writeE (o t : List Nat) : List Nat × Int := if o.length ≠ t.length then ([], 1) else if mayL o t = true then (t, 0) else ([], 6)
set_option maxRecDepth 100000 in
set_option maxHeartbeats 1600000 in
theorem write_any (A A' : Option Addr) (n c n' c' : Nat) (o t : List Nat) (w : World) (hr : Rd w w.heap.size 1 A n (o.flatMap bcell)) (hl : o.length = n) (hn : n ≤ 1048576) (hb : ∀ x ∈ o, x < 256)
    (hr' : Rd w w.heap.size 1 A' n' (t.flatMap bcell)) (hl' : t.length = n') (hn' : n' ≤ 1048576) (hb' : ∀ x ∈ t, x < 256) :
    Calls Try.prog 14 #[.slice A n c, .slice A' n' c'] w (TornRet w (writeE o t)) := by
  have cC := Lib.hid (check_any A A' n c n' c' o t w hr hl (by omega) hb hr' hl' (by omega) hb')
  have cL := Lib.hid (fun V (hV : Below w.heap.size w V) => clone_any A' n' c' t V (hr'.later hV) (by omega))
  have HW : Hid (writeE o t = if checkE o t = 0 then (t, 0) else ([], checkE o t)) := Lib.hid (by
    unfold writeE checkE
    split
    · rfl
    · split <;> rfl)
  have HL := Lib.hid hl'
  clear hr hl hb hr' hl' hb'
  generalize checkE o t = e0 at cC HW
  go_enter Try.func14, Try.ntmps14
  go_wp2_with fail
  refine cC.out.mono ?_; rintro en w1 ⟨rfl, hb1⟩
  have HB := Lib.hid hb1
  clear cC hb1
  by_cases he : e0 = 0
  · subst he
    have HE : Hid (writeE o t = (t, 0)) := Lib.hid (by rw [HW.out, if_pos rfl])
    clear HW
    go_wp2_with fail
    refine (cL.out _ HB.out).mono ?_; rintro en w2 ⟨v2, rfl, ho2, hb2⟩
    have HO := Lib.hid ho2
    have hB2 := HB.out.trans (hb2.mono HB.out.size)
    clear ho2 hb2 cL
    obtain ⟨A2, c2, rfl⟩ := own_slice HO.out
    go_wp2
    refine bodyPost_ret (v := .tuple #[.slice A2 n' c2, .int .i64 0]) (by simp [results, Try.results14]) rfl ?_
    refine ⟨_, by rw [HE.out], ?_, hB2⟩
    rw [HE.out]
    simp only
    rw [HL.out]
    exact own_mono HO.out HB.out.size
  · have HE : Hid (writeE o t = ([], e0)) := Lib.hid (by rw [HW.out, if_neg he])
    have he2 : (e0 != 0) = true := by simpa using he
    clear HW cL
    go_wp2
    refine bodyPost_ret (v := .tuple #[.slice none 0 0, .int .i64 e0]) (by simp [results, Try.results14]) rfl ?_
    exact ⟨.slice none 0 0, by rw [HE.out], by rw [HE.out]; exact own_none, HB.out⟩

/-! forcing -/
def forceB (o t : List Nat) (k : Nat) : Bool := bit o k && bit t k
def forceE (o t : List Nat) : List Nat × Int := if o.length ≠ t.length then ([], 1) else (bytesOf (forceB o t) o.length, 0)
def fmix (o t : List Nat) (m k : Nat) : Bool := if k < m then forceB o t k else bit o k
theorem bl_fset {o t : List Nat} {m N : Nat} (h : m < N) : bl (fmix o t (m + 1)) N = (bl (fmix o t m) N).set m (.bool (forceB o t m)) := by
  refine List.ext_getElem? fun j => ?_
  rw [List.getElem?_set, bl_len]
  by_cases hj : m = j
  · subst hj
    rw [if_pos rfl, if_pos h, bl_at h]
    simp [fmix]
  · rw [if_neg hj]
    by_cases hjn : j < N
    · rw [bl_at hjn, bl_at hjn]
      congr 2
      unfold fmix
      by_cases hjm : j < m
      · rw [if_pos (by omega), if_pos hjm]
      · rw [if_neg (by omega), if_neg hjm]
    · rw [List.getElem?_eq_none (by rw [bl_len]; omega), List.getElem?_eq_none (by rw [bl_len]; omega)]
theorem fmix_at (o t : List Nat) (k : Nat) : fmix o t k k = bit o k := by simp [fmix]

set_option maxRecDepth 100000 in
set_option maxHeartbeats 1600000 in
theorem cforce_any (A A' : Option Addr) (n c n' c' : Nat) (o t : List Nat) (w : World) (hr : Rd w w.heap.size 1 A n (o.flatMap bcell)) (hl : o.length = n) (hn : n ≤ 1048576) (hb : ∀ x ∈ o, x < 256)
    (hr' : Rd w w.heap.size 1 A' n' (t.flatMap bcell)) (hl' : t.length = n') (hn' : n' ≤ 1048576) (hb' : ∀ x ∈ t, x < 256) :
    Calls Try.prog 18 #[.slice A n c, .slice A' n' c'] w (TornRet w (forceE o t)) := by
  by_cases hne : n = n'
  · subst hne
    have c1 := Lib.hid (cbits_any A n c o w hr hl hn hb)
    have c2 := Lib.hid (fun w' (hbw : Below w.heap.size w w') => cbits_any A' n c' t w' ((hr'.below hbw).more hbw.size) hl' hn hb')
    have HE : Hid (forceE o t = (bytesOf (forceB o t) n, 0)) := Lib.hid (by simp [forceE, hl, hl'])
    have HTL : Hid ((bytesOf (forceB o t) n).length = n) := Lib.hid (by simp [bytesOf])
    clear hr hl hb hr' hl' hb'
    go_enter Try.func18, Try.ntmps18
    go_wp2_with fail
    refine c1.out.mono ?_; rintro e w2 ⟨v1, rfl, ho1, hb2⟩
    go_wp2_with fail
    refine (c2.out _ hb2).mono ?_; rintro e w3 ⟨v2, rfl, ho2, hb3⟩
    have hB3 := hb2.trans (hb3.mono hb2.size)
    have ho1' := own_below ho1 hb3
    have hbase : ∀ g, v1.ownBlock = some g → g < w2.heap.size := by
      intro g hg
      rcases ho1.2 with ⟨rfl, _⟩ | ⟨g', cap, cur, rfl, _, hh, _⟩
      · simp [Value.ownBlock] at hg
      · simp [Value.ownBlock] at hg
        subst hg
        rcases Nat.lt_or_ge g' w2.heap.size with h3 | h3
        · exact h3
        · rw [Array.getElem?_eq_none h3] at hh; cases hh
    obtain ⟨A1, k1, hv1⟩ := own_slice ho1'
    obtain ⟨A2, k2, hv2⟩ := own_slice ho2
    rw [hv1] at ho1' hbase ⊢
    rw [hv2] at ho2 ⊢
    have HBS := Lib.hid hbase
    have HO2 := Lib.hid ho2
    have HS : Hid (w3.ownsRow w.heap.size 4 1 (.slice A1 (8 * n) k1) (8 * n) (bl (fmix o t 0) (8 * n))) := Lib.hid (by
      have : bl (fmix o t 0) (8 * n) = bl (bit o) (8 * n) := bl_congr fun j _ => by simp [fmix]
      rw [this]; exact ho1')
    clear ho1 ho1' ho2 hv1 hv2 c1 c2 hb2 hbase
    obtain ⟨N, hN⟩ : ∃ N, N = 8 * n := ⟨_, rfl⟩
    have HN8 := Lib.hid hN
    rw [← hN] at HS HO2 ⊢
    have hNb : N ≤ 8388608 := by omega
    clear hN
    go_wp2
    go_loopg [20] N (fun g i wr => ∃ k : Nat, k ≤ N ∧ g = N - k ∧ i = .int .i64 k ∧ wr.ownsRow w.heap.size 4 1 (.slice A1 N k1) N (bl (fmix o t k) N) ∧ wr.ownsRow w2.heap.size 4 1 (.slice A2 N k2) N (bl (bit t) N) ∧ Below w.heap.size w wr)
    case atStart => exact ⟨0, Nat.zero_le _, rfl, rfl, HS.out, HO2.out, hB3⟩
    case round =>
      obtain ⟨k, hk, rfl, rfl, hwo, hwt, hB⟩ := hrel
      have HWO := Lib.hid hwo
      have HWT := Lib.hid hwt
      clear hwo hwt
      by_cases hlt : k < N
      · have HNN := Lib.hid (bl_fset (o := o) (t := t) hlt)
        obtain ⟨g1, e1, hv1, d1, _, _⟩ := own_bl HWO.out hlt (Below.refl _ _)
        obtain ⟨g2, e2, hv2, d2, hg2, _⟩ := own_bl HWT.out hlt (Below.refl _ _)
        injection hv1 with hv1 _ hk1
        injection hv2 with hv2 _ hk2
        subst hv1 hv2 hk1 hk2
        rw [fmix_at] at d1
        have hg12 : g1 < w2.heap.size := HBS.out g1 (by simp [Value.ownBlock])
        have u1 := World.ownsRow.frozenAt HWO.out k
        have hst := (World.ownsRow.stored HWO.out k (.bool (forceB o t k))).1
        have hst2 := ownsRow_setCell_below HWT.out (a := ⟨g1, k, none⟩) hg12 (.bool (forceB o t k))
        have hge : w.heap.size ≤ g1 := by
          rcases HWO.out.2 with ⟨h0, _⟩ | ⟨g', cap, cur, h0, hge, _⟩
          · cases h0
          · cases h0
            exact hge
        have HST := Lib.hid hst
        have HST2 := Lib.hid hst2
        have hfb : forceB o t k = (bit o k && bit t k) := rfl
        have HFB := Lib.hid hfb
        clear hst hst2 hfb
        generalize forceB o t k = fb at HST HST2 HNN HFB
        have i0 : (0 : Int) ≤ (k : Int) := by omega
        have i1 : (k : Int) < (N : Int) := by omega
        cases hbo : bit o k with
        | false =>
          obtain rfl : fb = false := by rw [HFB.out, hbo]; rfl
          rw [hbo] at d1
          clear hbo HFB
          go_wp2
          go_roundg (N - (k + 1))
          case measure => omega
          case rel => exact ⟨k + 1, by omega, rfl, by go_num, by rw [HNN.out]; exact HST.out, HST2.out, hB.setCell hge _⟩
        | true =>
          obtain rfl : fb = bit t k := by rw [HFB.out, hbo]; rfl
          rw [hbo] at d1
          clear hbo HFB
          generalize bit t k = bt at d2 HNN HST HST2
          go_wp2
          go_roundg (N - (k + 1))
          case measure => omega
          case rel => exact ⟨k + 1, by omega, rfl, by go_num, by rw [HNN.out]; exact HST.out, HST2.out, hB.setCell hge _⟩
      · obtain rfl : k = N := by omega
        have hfin : wr.ownsRow w.heap.size 4 1 (.slice A1 (8 * n) k1) (8 * n) (bl (forceB o t) (8 * n)) := by
          have h1 : bl (fmix o t k) k = bl (forceB o t) k := bl_congr fun j hj => by simp [fmix, hj]
          have h2 := HWO.out
          rw [h1] at h2
          rw [← HN8.out]
          exact h2
        have cB := Lib.hid (cbytes_any _ n _ _ wr hfin hn)
        rw [← HN8.out] at cB
        clear hfin
        go_wp2_with fail
        refine cB.out.mono ?_; rintro e w4 ⟨v4, rfl, ho4, hb4⟩
        go_wp2
        go_ret2
        refine ⟨v4, by rw [HE.out]; rfl, ?_, hB.trans (hb4.mono hB.size)⟩
        rw [HE.out]
        simp only [HTL.out]
        exact own_mono ho4 hB.size
  · have ht : ((n : Int) != (n' : Int)) = true := by simp; omega
    have HE : Hid (forceE o t = ([], 1)) := Lib.hid (by simp [forceE, hl, hl', hne])
    clear hne hl hl' hb hb' hr hr'
    go_enter Try.func18, Try.ntmps18
    go_wp2
    refine bodyPost_ret (v := .tuple #[.slice none 0 0, .int .i64 1]) (by simp [results, Try.results18]) rfl ?_
    exact ⟨.slice none 0 0, by rw [HE.out], by rw [HE.out]; exact own_none, Below.refl _ _⟩
end Cell
end Go.Proofs.Ytakmfjnfkjdbfab
