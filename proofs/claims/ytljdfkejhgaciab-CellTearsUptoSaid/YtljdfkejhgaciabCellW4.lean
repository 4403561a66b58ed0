/-
  Walk of cell.Torn.
-/
import Derived.Test.YtljdfkejhgaciabCellW3
namespace Go.Proofs.Ytljdfkejhgaciab
open Go.RowKit
namespace Cell

/-- the bytes, k of them done -/
def outT (o t : List Nat) (row : List Bool) (k : Nat) : List Nat := (List.range o.length).map fun j => if j < k then byteN (fun i => tornBit o t row (8 * j + i)) 8 else o.getD j 0
theorem outT_len (o t : List Nat) (row : List Bool) (k : Nat) : (outT o t row k).length = o.length := by simp [outT]
theorem outT_at {o t : List Nat} {row : List Bool} {k j : Nat} (hj : j < o.length) : (outT o t row k)[j]? = some (if j < k then byteN (fun i => tornBit o t row (8 * j + i)) 8 else o.getD j 0) := by simp [outT, hj]
theorem outT_zero (o t : List Nat) (row : List Bool) : outT o t row 0 = o := by
  apply List.ext_getElem?
  intro j
  by_cases hj : j < o.length
  · rw [outT_at hj]; simp [hj]
  · rw [List.getElem?_eq_none (by rw [outT_len]; omega), List.getElem?_eq_none (by omega)]
theorem outT_done {o t : List Nat} {row : List Bool} : outT o t row o.length = tornL o t row := by
  unfold outT tornL bytesOf
  apply List.ext_getElem?
  intro j
  by_cases hj : j < o.length
  · simp [hj]
  · simp [hj]
theorem outT_start {o t : List Nat} {row : List Bool} {k : Nat} (hk : k < o.length) : (outT o t row k).set k (o.getD k 0) = outT o t row k := by
  apply List.ext_getElem?
  intro j
  rw [List.getElem?_set]
  by_cases h : k = j
  · subst h
    rw [if_pos rfl, if_pos (by rw [outT_len]; exact hk), outT_at hk]
    simp
  · rw [if_neg h]
theorem outT_next {o t : List Nat} {row : List Bool} {k y : Nat} (hk : k < o.length) (h : tornTo (o.getD k 0) (t.getD k 0) (fun i => row.getD (8 * k + i) false) 8 y) : (outT o t row k).set k y = outT o t row (k + 1) := by
  apply List.ext_getElem?
  intro j
  rw [List.getElem?_set]
  by_cases e : k = j
  · subst e
    rw [if_pos rfl, if_pos (by rw [outT_len]; exact hk), outT_at hk, if_pos (by omega), torn_end h]
    congr 1
    refine byteN_congr 8 fun i hi => ?_
    unfold tornBit bit
    rw [show (8 * k + i) / 8 = k by omega, show (8 * k + i) % 8 = i by omega]
  · rw [if_neg e]
    by_cases hj : j < o.length
    · rw [outT_at hj, outT_at hj]
      have : (j < k + 1) ↔ (j < k) := by omega
      simp [this]
    · rw [List.getElem?_eq_none (by rw [outT_len]; omega), List.getElem?_eq_none (by rw [outT_len]; omega)]
theorem own_byte {w : World} {base n k y : Nat} {v : Value} {l : List Nat} (h : w.ownsRow base 5 1 v n (l.flatMap bcell)) (hk : k < n) (hy : l[k]? = some y) : ∃ g c, v = .slice (some ⟨g, 0, none⟩) n c ∧ w.cell? ⟨g, k, none⟩ = some (.int .u8 (y : Int)) ∧ base ≤ g := by
  have h' := h
  rcases h.2 with ⟨_, h0⟩ | ⟨g, cap, cur, rfl, hg, hh, _⟩
  · omega
  · refine ⟨g, cap, rfl, ?_, hg⟩
    rw [World.ownsRow.cellAt h' k (by omega), bcell_at, hy]
    rfl
theorem shl_small : ∀ q : Nat, q < 8 → ((2 : Int) ^ q) % 256 = ((2 ^ q : Nat) : Int) := by decide
theorem set_at {l : List Nat} {k y : Nat} (h : k < l.length) : (l.set k y)[k]? = some y := by rw [List.getElem?_set_self h]

set_option maxHeartbeats 1600000 in
theorem torn_any (A A' R : Option Addr) (n c n' c' m cr : Nat) (o t : List Nat) (row : List Bool) (w : World) (hr : Rd w w.heap.size 1 A n (o.flatMap bcell)) (hl : o.length = n) (hn : n ≤ 1048576) (hb : ∀ x ∈ o, x < 256)
    (hr' : Rd w w.heap.size 1 A' n' (t.flatMap bcell)) (hl' : t.length = n') (hn' : n' ≤ 1048576) (hb' : ∀ x ∈ t, x < 256) (hrr : Rd w w.heap.size 1 R m (row.flatMap rcell)) (hlr : row.length = m) (hm : m ≤ 1048576) :
    Calls Try.prog 15 #[.slice A n c, .slice A' n' c', .slice R m cr] w (TornRet w (tornE o t row)) := by
  have cK := check_any A A' n c n' c' o t w hr hl (by omega) hb hr' hl' (by omega) hb'
  by_cases hne : n = n'
  · subst hne
    cases hmy : mayL o t with
    | false =>
      have HE : Hid (tornE o t row = ([], 6)) := Lib.hid (by simp [tornE, hl, hl', hmy])
      rw [show checkE o t = 6 by simp [checkE, hl, hl', hmy]] at cK
      have HM := Lib.hid cK
      clear hr hl hb hr' hl' hb' hrr hlr hmy cK
      go_enter Try.func15, Try.ntmps15
      go_wp2_with fail
      refine HM.out.mono ?_; rintro e w1 ⟨rfl, hb1⟩
      go_wp2
      go_ret2
      exact ⟨.slice none 0 0, by rw [HE.out]; rfl, by rw [HE.out]; exact own_none, hb1⟩
    | true =>
      have HE : Hid (tornE o t row = (tornL o t row, 0)) := Lib.hid (by simp [tornE, hl, hl', hmy])
      rw [show checkE o t = 0 by simp [checkE, hl, hl', hmy]] at cK
      have HM := Lib.hid cK
      have HC := Lib.hid (fun w' (hbw : Below w.heap.size w w') => clone_any A n c o w' ((hr.below hbw).more hbw.size) (by omega))
      have HR' := Lib.hid hr'
      have HRR := Lib.hid hrr
      have HLR := Lib.hid hlr
      have HL := Lib.hid hl
      have HL' := Lib.hid hl'
      have HB := Lib.hid hb
      have HB' := Lib.hid hb'
      have HTL : Hid ((tornL o t row).length = n) := Lib.hid (by rw [torn_len, hl])
      have HTB : Hid (outT o t row n = tornL o t row) := Lib.hid (by rw [← outT_done, hl])
      have HZ := Lib.hid (outT_zero o t row)
      clear hr hl hb hr' hl' hb' hrr hlr hmy cK
      go_enter Try.func15, Try.ntmps15
      go_wp2_with fail
      refine HM.out.mono ?_; rintro e w1 ⟨rfl, hb1⟩
      go_wp2_with fail
      refine (HC.out _ hb1).mono ?_; rintro e w2 ⟨v1, rfl, ho1, hb2⟩
      have hB2 := hb1.trans (hb2.mono hb1.size)
      have ho1' := own_mono ho1 hb1.size
      rw [← HZ.out] at ho1'
      obtain ⟨A1, k1, hv1⟩ := own_slice ho1'
      rw [hv1] at ho1' ⊢
      have HS := Lib.hid ho1'
      clear ho1 ho1' hv1 HC hb2
      go_wp2_with fail
      go_loopg [24] n (fun g i wr => ∃ k : Nat, k ≤ n ∧ g = n - k ∧ i = .int .i64 k ∧ wr.ownsRow w.heap.size 5 1 (.slice A1 n k1) n ((outT o t row k).flatMap bcell) ∧ Below w.heap.size w wr)
      case atStart => exact ⟨0, Nat.zero_le _, rfl, rfl, HS.out, hB2⟩
      case round =>
        obtain ⟨k, hk, rfl, rfl, hwo, hB⟩ := hrel
        by_cases hlt : k < n
        · obtain ⟨x, hx⟩ : ∃ x, o[k]? = some x := ⟨_, List.getElem?_eq_getElem (by rw [HL.out]; exact hlt)⟩
          obtain ⟨y, hy⟩ : ∃ y, t[k]? = some y := ⟨_, List.getElem?_eq_getElem (by rw [HL'.out]; exact hlt)⟩
          have hx8 := HB.out x (List.mem_of_getElem? hx)
          have hy8 := HB'.out y (List.mem_of_getElem? hy)
          have hko : k < o.length := by rw [HL.out]; exact hlt
          obtain ⟨g1, e1, hv1, _, hge⟩ := own_byte hwo hlt (outT_at (k := k) hko)
          injection hv1 with hv1 _ hk1
          subst hv1 hk1
          obtain ⟨b', off', rfl, _⟩ := rd_some HR'.out (by omega)
          have hst0 : tornTo x y (fun j => row.getD (8 * k + j) false) 0 x := ⟨hx8, fun j _ => by simp⟩
          have hset0 : (outT o t row k).set k x = outT o t row k := by
            have := outT_start (t := t) (row := row) hko
            rwa [getD_of hx] at this
          have hnext : ∀ u, tornTo x y (fun j => row.getD (8 * k + j) false) 8 u → (outT o t row k).set k u = outT o t row (k + 1) := fun u hu => outT_next hko (by rw [getD_of hx, getD_of hy]; exact hu)
          have hlen : k < (outT o t row k).length := by rw [outT_len]; exact hko
          rw [← hset0] at hwo
          have HST0 := Lib.hid hst0
          have HWO := Lib.hid hwo
          have HNX := Lib.hid hnext
          have HLEN := Lib.hid hlen
          have HY := Lib.hid hy
          clear hx hy hko hst0 hset0 hwo hnext hlen
          generalize hG : outT o t row k = G at HWO HNX HLEN
          clear hG
          go_wp2_with fail
          go_loopg [27] 8 (fun g i wi => ∃ q u : Nat, q ≤ 8 ∧ g = 8 - q ∧ i = .int .i64 q ∧ Hid (tornTo x y (fun j => row.getD (8 * k + j) false) q u) ∧ wi.ownsRow w.heap.size 5 1 (.slice (some ⟨g1, 0, none⟩) n k1) n ((G.set k u).flatMap bcell) ∧ Below w.heap.size w wi)
          case atStart => exact ⟨0, x, by omega, rfl, rfl, HST0, HWO.out, hB⟩
          case round =>
            obtain ⟨q, u, hq, rfl, rfl, HT, hwi, hBi⟩ := hrel
            have HWI := Lib.hid hwi
            clear hwi
            by_cases hlq : q < 8
            · have hul := HLEN.out
              have hg : (G.set k u)[k]? = some u := set_at HLEN.out
              have hrow : (row.getD (8 * k + q) false = false) ∨ (8 * k + q < m ∧ row[8 * k + q]? = some true) := by
                by_cases hin : 8 * k + q < m
                · obtain ⟨b, hv⟩ : ∃ b, row[8 * k + q]? = some b := ⟨_, List.getElem?_eq_getElem (by rw [HLR.out]; exact hin)⟩
                  cases b with
                  | true => right; exact ⟨hin, hv⟩
                  | false => left; rw [List.getD_eq_getElem?_getD, hv]; rfl
                · left
                  rw [List.getD_eq_getElem?_getD, List.getElem?_eq_none (by rw [HLR.out]; omega)]; rfl
              rcases hrow with hrf | ⟨hin, hrt⟩
              · have HT' := Lib.hid (torn_skip HT.out hrf)
                by_cases hin : 8 * k + q < m
                · obtain ⟨br, offr, rfl, hbr, hcr⟩ := HRR.out.2 (by omega)
                  have hx : row[8 * k + q]? = some false := by
                    obtain ⟨b, hv⟩ : ∃ b, row[8 * k + q]? = some b := ⟨_, List.getElem?_eq_getElem (by rw [HLR.out]; exact hin)⟩
                    rw [List.getD_eq_getElem?_getD, hv] at hrf
                    rw [hv]; simpa using hrf
                  have d0 : wr.cell? ⟨br, offr + (8 * k + q), none⟩ = some (.bool false) := (hBi.cell hbr).trans (hcr (8 * k + q) _ (by
                    have := flat_get rcell_len row (8 * k + q) 0 false hx (by omega)
                    simpa [rcell] using this))
                  clear hcr hx hrf hg hul
                  go_wp2
                  go_roundg (8 - (q + 1))
                  case measure => omega
                  case rel => exact ⟨q + 1, u, by omega, rfl, by go_num, HT', HWI.out, hBi⟩
                · clear hrf hg hul
                  go_wp2
                  go_roundg (8 - (q + 1))
                  case measure => omega
                  case rel => exact ⟨q + 1, u, by omega, rfl, by go_num, HT', HWI.out, hBi⟩
              · obtain ⟨br, offr, rfl, hbr, hcr⟩ := HRR.out.2 (by omega)
                have d0 : wr.cell? ⟨br, offr + (8 * k + q), none⟩ = some (.bool true) := (hBi.cell hbr).trans (hcr (8 * k + q) _ (by
                  have := flat_get rcell_len row (8 * k + q) 0 true hrt (by omega)
                  simpa [rcell] using this))
                have HT' := Lib.hid (torn_step HT.out hlq (by rw [List.getD_eq_getElem?_getD, hrt]; rfl) hy8)
                have hu8 : u < 256 := HT.out.1
                have hp : 2 ^ q ≤ 128 := Nat.le_trans (Nat.pow_le_pow_right (by omega) (show q ≤ 7 by omega)) (by decide)
                have e1p := shl_small q hlq
                generalize 2 ^ q = p at HT' hp e1p
                have e2 := u8_andNot_nat u p hu8 (by omega)
                have e3 := u8_and_nat y p hy8 (by omega)
                have e4 := u8_or_nat (u &&& (255 - p)) (y &&& p) (Nat.lt_of_le_of_lt Nat.and_le_left hu8) (Nat.lt_of_le_of_lt Nat.and_le_left hy8)
                have d1 : ∀ z : LaterOf wr, z.w.cell? ⟨g1, k, none⟩ = some (.int .u8 (u : Int)) := fun z => z.cell (by
                  rw [World.ownsRow.cellAt HWI.out k (by omega), bcell_at, hg]; rfl)
                have d2 : ∀ z : LaterOf wr, z.w.cell? ⟨b', off' + k, none⟩ = some (.int .u8 (y : Int)) := fun z => z.cell (rd_at HR'.out (by omega) hBi HY.out)
                have i0 : (0 : Int) ≤ (k : Int) := by omega
                have i1 : (k : Int) < (n : Int) := by omega
                generalize u &&& (255 - p) = ux at e2 e4 HT'
                generalize y &&& p = yp at e3 e4 HT'
                generalize ux ||| yp = z at e4 HT'
                clear hcr hg hul hrt
                go_upto_region 14 with (fail)
                refine wp_region_tail 16 (by kernel_rfl) (by kernel_rfl) ?_
                simp only [List.take_succ_cons, List.take_zero, List.drop_succ_cons, List.drop_zero]
                repeat (go_big_quiet_step (fail))
                refine wpQuiet_nil ?_; intro xw hw'; obtain ⟨xq, hw''⟩ := hw'; obtain ⟨xw0, xh⟩ := xq; change xw = xw0 at hw''; subst hw''
                have HKx := own_below HWI.out xh
                have u0 := World.ownsRow.frozenAt HKx k
                have u1 : xw.cell? ⟨g1, k, none⟩ = some (.int .u8 (u : Int)) := d1 ⟨xw, xh⟩
                have hst := (World.ownsRow.stored HKx k (.int .u8 (z : Int))).1
                have e : ((G.set k u).flatMap bcell).set k (.int .u8 (z : Int)) = (G.set k z).flatMap bcell := by rw [← flat_set, List.set_set]
                rw [e] at hst
                have HST := Lib.hid hst
                have hBx := hBi.trans (xh.mono hBi.size)
                clear d1 d2 hst HKx e
                go_wp2
                go_roundg (8 - (q + 1))
                case measure => omega
                case rel => exact ⟨q + 1, z, by omega, rfl, by go_num, HT', HST.out, hBx.setCell hge _⟩
            · obtain rfl : q = 8 := by omega
              have HN := Lib.hid (HNX.out u HT.out)
              go_wp2
              go_roundg (n - (k + 1))
              case measure => omega
              case rel => exact ⟨k + 1, by omega, rfl, by go_num, by rw [← HN.out]; exact HWI.out, hBi⟩
        · obtain rfl : k = n := by omega
          have HWO := Lib.hid hwo
          clear hwo
          go_wp2
          go_ret2
          refine ⟨_, by rw [HE.out]; rfl, ?_, hB⟩
          rw [HE.out]
          simp only [HTL.out]
          rw [← HTB.out]
          exact HWO.out
  · have HE : Hid (tornE o t row = ([], 1)) := Lib.hid (by simp [tornE, hl, hl', hne])
    rw [show checkE o t = 1 by simp [checkE, hl, hl', hne]] at cK
    have HM := Lib.hid cK
    clear hne hl hl' hb hb' hr hr' hrr hlr cK
    go_enter Try.func15, Try.ntmps15
    go_wp2_with fail
    refine HM.out.mono ?_; rintro e w1 ⟨rfl, hb1⟩
    go_wp2
    go_ret2
    exact ⟨.slice none 0 0, by rw [HE.out]; rfl, by rw [HE.out]; exact own_none, hb1⟩
end Cell
end Go.Proofs.Ytljdfkejhgaciab
