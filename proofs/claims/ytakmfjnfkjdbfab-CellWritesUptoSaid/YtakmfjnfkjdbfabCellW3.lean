/-
  Walks of the reference's CBytes and CTorn.
-/
import Derived.Test.YtakmfjnfkjdbfabCellW2
namespace Go.Proofs.Ytakmfjnfkjdbfab
open Go.RowKit
namespace Cell

/-- the bytes after k bits -/
def outK (f : Nat → Bool) (n k : Nat) : List Nat := (List.range n).map fun j => byteN (fun i => f (8 * j + i)) (min 8 (k - 8 * j))
theorem outK_len (f : Nat → Bool) (n k : Nat) : (outK f n k).length = n := by simp [outK]
theorem outK_at {f : Nat → Bool} {n k j : Nat} (hj : j < n) : (outK f n k)[j]? = some (byteN (fun i => f (8 * j + i)) (min 8 (k - 8 * j))) := by simp [outK, hj]
theorem outK_zero (f : Nat → Bool) (n : Nat) : outK f n 0 = List.replicate n 0 := by
  apply List.ext_getElem?
  intro j
  by_cases hj : j < n
  · rw [outK_at hj]; simp [hj, byteN]
  · simp [outK, hj]
theorem outK_end (f : Nat → Bool) (n : Nat) : outK f n (8 * n) = bytesOf f n := by
  apply List.ext_getElem?
  intro j
  by_cases hj : j < n
  · rw [outK_at hj, show min 8 (8 * n - 8 * j) = 8 by omega]; simp [bytesOf, hj]
  · simp [outK, bytesOf, hj]
theorem outK_skip {f : Nat → Bool} {n k : Nat} (h : f k = false) : outK f n (k + 1) = outK f n k := by
  apply List.ext_getElem?
  intro j
  by_cases hj : j < n
  · rw [outK_at hj, outK_at hj]
    by_cases h1 : j = k / 8
    · subst h1
      rw [show min 8 (k + 1 - 8 * (k / 8)) = k % 8 + 1 by omega, show min 8 (k - 8 * (k / 8)) = k % 8 by omega, byteN, show 8 * (k / 8) + k % 8 = k by omega, h]
      simp
    · rw [show min 8 (k + 1 - 8 * j) = min 8 (k - 8 * j) by omega]
  · simp [outK, hj]
theorem outK_set {f : Nat → Bool} {n k : Nat} (h : f k = true) : outK f n (k + 1) = (outK f n k).set (k / 8) (byteN (fun i => f (8 * (k / 8) + i)) (k % 8) + 2 ^ (k % 8)) := by
  apply List.ext_getElem?
  intro j
  by_cases hj : j < n
  · rw [outK_at hj]
    by_cases h1 : j = k / 8
    · subst h1
      rw [List.getElem?_set_self (by rw [outK_len]; exact hj), show min 8 (k + 1 - 8 * (k / 8)) = k % 8 + 1 by omega, byteN, show 8 * (k / 8) + k % 8 = k by omega, h]
      simp
    · rw [List.getElem?_set_ne (by omega), outK_at hj, show min 8 (k + 1 - 8 * j) = min 8 (k - 8 * j) by omega]
  · rw [List.getElem?_eq_none (by rw [outK_len]; omega), List.getElem?_eq_none (by rw [List.length_set, outK_len]; omega)]
theorem flat_set (l : List Nat) (j y : Nat) : (l.set j y).flatMap bcell = (l.flatMap bcell).set j (.int .u8 (y : Int)) := by
  apply List.ext_getElem?
  intro i
  rw [bcell_at, List.getElem?_set, List.getElem?_set, bcell_flat_len, bcell_at]
  by_cases h : j = i
  · subst h
    by_cases h2 : j < l.length
    · simp [h2]
    · simp [h2]
  · simp [h]

set_option maxRecDepth 100000 in
set_option maxHeartbeats 800000 in
theorem cbytes_any (v : Value) (n base : Nat) (f : Nat → Bool) (w : World) (ho : w.ownsRow base 4 1 v (8 * n) (bl f (8 * n))) (hn : n ≤ 1048576) :
    Calls Try.prog 54 #[v] w (OwnRet w 5 1 n ((bytesOf f n).flatMap bcell)) := by
  obtain ⟨i0, hi, hz0, hz1, hz2⟩ := info_parts byte_info
  have HO := Lib.hid ho
  obtain ⟨A, c, hv⟩ := own_slice ho
  rw [hv] at HO ⊢
  clear ho hv
  go_enter Try.func54, Try.ntmps54
  go_wp2_with (at_make; refine wpList_make_full _ rfl (.tmp 8) (.tmp 8) 34 rfl w.heap.size 5 i0 (.int .u8 0) 1 Try.underlying34 hi hz0 hz1 .i64 .i64 _ _ n rfl rfl (by omega) (by omega) (by rw [hz2]; omega) (by simp only [maxLen]; omega) (Nat.le_refl _) ?_; intro w1 hown1 hg1)
  have hB1 : Below w.heap.size w w1 := (Below.refl _ _).grown hg1 (Nat.le_refl _) (by simp)
  have hown : w1.ownsRow w.heap.size 5 1 (.slice (some ⟨w.heap.size, 0, none⟩) n n) n ((outK f n 0).flatMap bcell) := by
    rw [outK_zero]
    have e : (madeCells (Value.int IntKind.u8 0).cells (n * 1)).toList = (List.replicate n 0).flatMap bcell := by
      have := toList_madeCells_one (.int .u8 0) n
      simp only [Value.cells, Nat.mul_one]
      rw [this]
      apply List.ext_getElem?
      intro j
      rw [bcell_at]
      by_cases hj : j < n <;> simp [hj]
    rw [← e]
    exact hown1
  have HOW := Lib.hid hown
  clear hown hown1 hg1
  go_loopg [12] (8 * n) (fun g i wr => ∃ k : Nat, k ≤ 8 * n ∧ g = 8 * n - k ∧ i = .int .i64 k ∧ wr.ownsRow w.heap.size 5 1 (.slice (some ⟨w.heap.size, 0, none⟩) n n) n ((outK f n k).flatMap bcell) ∧ Below w.heap.size w wr)
  case atStart => exact ⟨0, Nat.zero_le _, rfl, rfl, HOW.out, hB1⟩
  case round =>
    obtain ⟨k, hk, rfl, rfl, hownk, hB⟩ := hrel
    have HK := Lib.hid hownk
    clear hownk
    by_cases hlt : k < 8 * n
    · obtain ⟨g1, e1, hv1, d1, _, hg1⟩ := own_bl HO.out hlt hB
      injection hv1 with hv1 _ hk1
      subst hv1 hk1
      cases hf : f k with
      | false =>
        rw [hf] at d1
        have HN := Lib.hid (outK_skip (n := n) hf)
        clear hf
        go_wp2
        go_roundg (8 * n - (k + 1))
        case measure => omega
        case rel => exact ⟨k + 1, by omega, rfl, by go_num, by rw [HN.out]; exact HK.out, hB⟩
      | true =>
        rw [hf] at d1
        have HN := Lib.hid (outK_set (n := n) hf)
        have hkm : k / 8 < n := by omega
        have hlt8 := byteN_lt (fun i => f (8 * (k / 8) + i)) (k % 8)
        have hat : (outK f n k)[k / 8]? = some (byteN (fun i => f (8 * (k / 8) + i)) (k % 8)) := by rw [outK_at hkm, show min 8 (k - 8 * (k / 8)) = k % 8 by omega]
        generalize byteN (fun i => f (8 * (k / 8) + i)) (k % 8) = y at HN hlt8 hat
        have d2 : ∀ z : LaterOf wr, z.w.cell? ⟨w.heap.size, k / 8, none⟩ = some (.int .u8 (y : Int)) := fun z => z.cell (by
          rw [World.ownsRow.cellAt HK.out (k / 8) (by omega), bcell_at, hat]; rfl)
        have i0' : (0 : Int) ≤ (k : Int) / 8 := by omega
        have i1' : (k : Int) / 8 < (n : Int) := by omega
        have hp : 2 ^ (k % 8) ≤ 128 := by
          have : k % 8 ≤ 7 := by omega
          exact Nat.le_trans (Nat.pow_le_pow_right (by omega) this) (by decide)
        have e1p : ((2 : Int) ^ (k % 8)) % 256 = ((2 ^ (k % 8) : Nat) : Int) := by
          have : ((2 ^ (k % 8) : Nat) : Int) = (2 : Int) ^ (k % 8) := by push_cast; rfl
          rw [← this]
          omega
        generalize 2 ^ (k % 8) = p at HN hlt8 hp e1p
        clear hf hat
        go_upto_region 6 with (fail)
        refine wp_region_tail 10 (by kernel_rfl) (by kernel_rfl) ?_
        simp only [List.take_succ_cons, List.take_zero, List.drop_succ_cons, List.drop_zero]
        repeat (go_big_quiet_step (fail))
        refine wpQuiet_nil ?_; intro xw hw'; obtain ⟨xq, hw''⟩ := hw'; obtain ⟨xw0, xh⟩ := xq; change xw = xw0 at hw''; subst hw''
        have HKx := own_below HK.out xh
        have u0 := World.ownsRow.frozenAt HKx (k / 8)
        have u1 : xw.cell? ⟨w.heap.size, k / 8, none⟩ = some (.int .u8 (y : Int)) := d2 ⟨xw, xh⟩
        have hst := (World.ownsRow.stored HKx (k / 8) (.int .u8 ((y : Int) + (p : Int)))).1
        have HST := Lib.hid hst
        have hBx := hB.trans (xh.mono hB.size)
        clear d2 hst HKx
        go_wp2
        go_roundg (8 * n - (k + 1))
        case measure => omega
        case rel => exact ⟨k + 1, by omega, rfl, by go_num, by rw [HN.out, flat_set]; exact HST.out, hBx.setCell (Nat.le_refl _) _⟩
    · obtain rfl : k = 8 * n := by omega
      go_wp2
      go_ret
      exact ⟨_, rfl, by rw [← outK_end]; exact HK.out, hB⟩

def tornE (o t : List Nat) (row : List Bool) : List Nat × Int := if o.length ≠ t.length then ([], 1) else if mayL o t = true then (tornL o t row, 0) else ([], 6)
theorem torn_len (o t : List Nat) (row : List Bool) : (tornL o t row).length = o.length := by simp [tornL, bytesOf]
/-- a slice (own or not) that reads as these bytes, and a number -/
def TornRet (w : World) (p : List Nat × Int) (e : Ending) (w' : World) : Prop :=
  ∃ v, e = .returned (.tuple #[v, .int .i64 p.2]) ∧ w'.ownsRow w.heap.size 5 1 v p.1.length (p.1.flatMap bcell) ∧ Below w.heap.size w w'

def rcell (b : Bool) : List Value := [.bool b]
theorem rcell_len : ∀ b : Bool, (rcell b).length = 1 := fun _ => rfl
/-- the bits after m places of the row -/
def tmix (o t : List Nat) (row : List Bool) (m : Nat) (k : Nat) : Bool := if k < m then tornBit o t row k else bit o k
theorem bl_set {o t : List Nat} {row : List Bool} {m N : Nat} (hr : row.getD m false = true) : bl (tmix o t row (m + 1)) N = (bl (tmix o t row m) N).set m (.bool (bit t m)) := by
  apply List.ext_getElem?
  intro j
  by_cases hj : j < N
  · rw [bl_at hj]
    by_cases h : m = j
    · subst h
      rw [List.getElem?_set_self (by rw [bl_len]; exact hj)]
      simp only [tmix, Nat.lt_succ_self, if_true, tornBit, hr]
    · rw [List.getElem?_set_ne h, bl_at hj]
      have : (j < m + 1) ↔ (j < m) := by omega
      simp [tmix, this]
  · rw [List.getElem?_eq_none (by rw [bl_len]; omega), List.getElem?_eq_none (by rw [List.length_set, bl_len]; omega)]
theorem bl_congr {f g : Nat → Bool} {N : Nat} (h : ∀ j, j < N → f j = g j) : bl f N = bl g N := by
  apply List.ext_getElem?
  intro j
  by_cases hj : j < N
  · rw [bl_at hj, bl_at hj, h j hj]
  · rw [List.getElem?_eq_none (by rw [bl_len]; omega), List.getElem?_eq_none (by rw [bl_len]; omega)]
theorem bl_skip {o t : List Nat} {row : List Bool} {m N : Nat} (hr : row.getD m false = false) : bl (tmix o t row (m + 1)) N = bl (tmix o t row m) N := bl_congr fun j hj => by
  unfold tmix
  by_cases h : j = m
  · subst h
    unfold tornBit
    rw [hr]
    simp
  · have : (j < m + 1) ↔ (j < m) := by omega
    simp [this]
theorem bl_done {o t : List Nat} {row : List Bool} {m N : Nat} (h : N ≤ m ∨ row.length ≤ m) : bl (tmix o t row m) N = bl (tornBit o t row) N := bl_congr fun j hj => by
  unfold tmix
  by_cases hjm : j < m
  · rw [if_pos hjm]
  · rw [if_neg hjm]
    have : row.getD j false = false := by rw [List.getD_eq_getElem?_getD, List.getElem?_eq_none (by omega)]; rfl
    unfold tornBit
    rw [this]
    simp

set_option maxRecDepth 100000 in
set_option maxHeartbeats 1600000 in
theorem ctorn_any (A A' R : Option Addr) (n c n' c' m cr : Nat) (o t : List Nat) (row : List Bool) (w : World) (hr : Rd w w.heap.size 1 A n (o.flatMap bcell)) (hl : o.length = n) (hn : n ≤ 1048576) (hb : ∀ x ∈ o, x < 256)
    (hr' : Rd w w.heap.size 1 A' n' (t.flatMap bcell)) (hl' : t.length = n') (hn' : n' ≤ 1048576) (hb' : ∀ x ∈ t, x < 256) (hrr : Rd w w.heap.size 1 R m (row.flatMap rcell)) (hlr : row.length = m) (hm : m ≤ 8388608) :
    Calls Try.prog 16 #[.slice A n c, .slice A' n' c', .slice R m cr] w (TornRet w (tornE o t row)) := by
  by_cases hne : n = n'
  · subst hne
    have cM := cmay_any A A' n c n c' o t w hr hl hn hb hr' hl' hn' hb'
    have c1 := Lib.hid (fun w' (hbw : Below w.heap.size w w') => cbits_any A n c o w' ((hr.below hbw).more hbw.size) hl hn hb)
    have c2 := Lib.hid (fun w' (hbw : Below w.heap.size w w') => cbits_any A' n c' t w' ((hr'.below hbw).more hbw.size) hl' hn hb')
    cases hmy : mayL o t with
    | false =>
      have HE : Hid (tornE o t row = ([], 6)) := Lib.hid (by simp [tornE, hl, hl', hmy])
      rw [hmy] at cM
      have HM := Lib.hid cM
      clear hr hl hb hr' hl' hb' hrr hlr hmy cM c1 c2
      go_enter Try.func16, Try.ntmps16
      go_wp2_with fail
      refine HM.out.mono ?_; rintro e w1 ⟨rfl, hb1⟩
      go_wp2
      go_ret2
      exact ⟨.slice none 0 0, by rw [HE.out]; rfl, by rw [HE.out]; exact own_none, hb1⟩
    | true =>
      have HE : Hid (tornE o t row = (tornL o t row, 0)) := Lib.hid (by simp [tornE, hl, hl', hmy])
      rw [hmy] at cM
      have HM := Lib.hid cM
      have HRR := Lib.hid hrr
      have HLR := Lib.hid hlr
      have HTL : Hid ((tornL o t row).length = n) := Lib.hid (by rw [torn_len, hl])
      have HTB : Hid (bytesOf (tornBit o t row) n = tornL o t row) := Lib.hid (by rw [tornL, hl])
      obtain ⟨mn, Hmn, hmn⟩ := min2_ex Try.prog (m : Int) (8 * (n : Int))
      clear hr hl hb hr' hl' hb' hrr hlr hmy cM
      go_enter Try.func16, Try.ntmps16
      go_wp2_with fail
      refine HM.out.mono ?_; rintro e w1 ⟨rfl, hb1⟩
      go_wp2_with fail
      refine (c1.out _ hb1).mono ?_; rintro e w2 ⟨v1, rfl, ho1, hb2⟩
      have hB2 := hb1.trans (hb2.mono hb1.size)
      go_wp2_with fail
      refine (c2.out _ hB2).mono ?_; rintro e w3 ⟨v2, rfl, ho2, hb3⟩
      have hB3 := hB2.trans (hb3.mono hB2.size)
      have ho1' := own_below (own_mono ho1 hb1.size) hb3
      have hbase : ∀ g, v1.ownBlock = some g → g < w2.heap.size := by
        intro g hg
        rcases ho1.2 with ⟨rfl, _⟩ | ⟨g', cap, cur, rfl, _, hh, _⟩
        · simp [Value.ownBlock] at hg
        · simp [Value.ownBlock] at hg
          subst hg
          rcases Nat.lt_or_ge g' w2.heap.size with h3 | h3
          · exact h3
          · rw [Array.getElem?_eq_none h3] at hh; cases hh
      obtain ⟨A1, k1, hv1⟩ := own_slice ho1'
      obtain ⟨A2, k2, hv2⟩ := own_slice ho2
      rw [hv1] at ho1' hbase ⊢
      rw [hv2] at ho2 ⊢
      have HBS := Lib.hid hbase
      have HO2 := Lib.hid ho2
      have HS : Hid (w3.ownsRow w.heap.size 4 1 (.slice A1 (8 * n) k1) (8 * n) (bl (tmix o t row 0) (8 * n))) := Lib.hid (by
        have : bl (tmix o t row 0) (8 * n) = bl (bit o) (8 * n) := bl_congr fun j _ => by simp [tmix]
        rw [this]; exact ho1')
      clear ho1 ho1' ho2 hv1 hv2 c1 c2 hb2 hbase
      obtain ⟨q, rfl⟩ : ∃ q : Nat, mn = (q : Int) := ⟨mn.toNat, by have := Hmn.out; omega⟩
      have hq1 : q ≤ 8 * n := by have := Hmn.out; omega
      have hq2 : q ≤ m := by have := Hmn.out; omega
      have hq3 : Hid (8 * n ≤ q ∨ m ≤ q) := Lib.hid (by have := Hmn.out; omega)
      go_wp2_with fail
      go_loopg [29] q (fun g i wr => ∃ k : Nat, k ≤ q ∧ g = q - k ∧ i = .int .i64 k ∧ wr.ownsRow w.heap.size 4 1 (.slice A1 (8 * n) k1) (8 * n) (bl (tmix o t row k) (8 * n)) ∧ wr.ownsRow w2.heap.size 4 1 (.slice A2 (8 * n) k2) (8 * n) (bl (bit t) (8 * n)) ∧ Below w.heap.size w wr)
      case atStart => exact ⟨0, Nat.zero_le _, rfl, rfl, HS.out, HO2.out, hB3⟩
      case round =>
        obtain ⟨k, hk, rfl, rfl, hwo, hwt, hB⟩ := hrel
        have HWO := Lib.hid hwo
        have HWT := Lib.hid hwt
        clear hwo hwt
        by_cases hlt : k < q
        · obtain ⟨br, offr, hR, hbr, hcr⟩ := HRR.out.2 (by omega)
          obtain ⟨x, hx⟩ : ∃ x, row[k]? = some x := ⟨_, List.getElem?_eq_getElem (by rw [HLR.out]; omega)⟩
          have d0 : wr.cell? ⟨br, offr + k, none⟩ = some (.bool x) := (hB.cell hbr).trans (hcr k _ (by
            have := flat_get rcell_len row k 0 x hx (by omega)
            simpa [rcell] using this))
          have hxd : row.getD k false = x := by rw [List.getD_eq_getElem?_getD, hx]; rfl
          subst hR
          clear hcr hx
          cases x with
          | false =>
            have HN := Lib.hid (bl_skip (o := o) (t := t) (N := 8 * n) hxd)
            clear hxd
            go_wp2
            go_roundg (q - (k + 1))
            case measure => omega
            case rel => exact ⟨k + 1, by omega, rfl, by go_num, by rw [HN.out]; exact HWO.out, HWT.out, hB⟩
          | true =>
            have HN := Lib.hid (bl_set (o := o) (t := t) (N := 8 * n) hxd)
            obtain ⟨g1, e1, hv1, d1, _, _⟩ := own_bl HWO.out (show k < 8 * n by omega) (Below.refl _ _)
            obtain ⟨g2, e2, hv2, d2, hg2, _⟩ := own_bl HWT.out (show k < 8 * n by omega) (Below.refl _ _)
            injection hv1 with hv1 _ hk1
            injection hv2 with hv2 _ hk2
            subst hv1 hv2 hk1 hk2
            have hg12 : g1 < w2.heap.size := HBS.out g1 (by simp [Value.ownBlock])
            have u1 := World.ownsRow.frozenAt HWO.out k
            have hst := (World.ownsRow.stored HWO.out k (.bool (bit t k))).1
            have hst2 := ownsRow_setCell_below HWT.out (a := ⟨g1, k, none⟩) hg12 (.bool (bit t k))
            have hge : w.heap.size ≤ g1 := by
              rcases HWO.out.2 with ⟨h0, _⟩ | ⟨g', cap, cur, h0, hge, _⟩
              · cases h0
              · cases h0
                exact hge
            have HST := Lib.hid hst
            have HST2 := Lib.hid hst2
            clear hxd hst hst2
            generalize bit t k = bt at d2 HN HST HST2
            go_wp2
            go_roundg (q - (k + 1))
            case measure => omega
            case rel => exact ⟨k + 1, by omega, rfl, by go_num, by rw [HN.out]; exact HST.out, HST2.out, hB.setCell hge _⟩
        · obtain rfl : k = q := by omega
          have hfin : wr.ownsRow w.heap.size 4 1 (.slice A1 (8 * n) k1) (8 * n) (bl (tornBit o t row) (8 * n)) := by
            have := HWO.out
            rwa [bl_done (by rw [HLR.out]; exact hq3.out)] at this
          have cB := Lib.hid (cbytes_any _ n _ _ wr hfin hn)
          clear hfin
          go_wp2_with fail
          refine cB.out.mono ?_; rintro e w4 ⟨v4, rfl, ho4, hb4⟩
          go_wp2
          go_ret2
          refine ⟨v4, by rw [HE.out]; rfl, ?_, hB.trans (hb4.mono hB.size)⟩
          rw [HE.out]
          simp only [HTL.out]
          rw [← HTB.out]
          exact own_mono ho4 hB.size
  · have ht : ((n : Int) != (n' : Int)) = true := by simp; omega
    have HE : Hid (tornE o t row = ([], 1)) := Lib.hid (by simp [tornE, hl, hl', hne])
    clear hne hl hl' hb hb' hr hr' hrr hlr
    go_enter Try.func16, Try.ntmps16
    go_wp2
    go_ret2
    exact ⟨.slice none 0 0, by rw [HE.out]; rfl, by rw [HE.out]; exact own_none, Below.refl _ _⟩
end Cell
end Go.Proofs.Ytakmfjnfkjdbfab
