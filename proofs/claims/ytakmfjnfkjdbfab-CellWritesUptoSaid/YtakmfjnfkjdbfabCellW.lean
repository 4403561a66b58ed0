/-
  Walks of cell.May, cell.check and of the reference's CBits, CMay.
-/
import Derived.Test.YtakmfjnfkjdbfabStr
import Derived.Test.YtakmfjnfkjdbfabCellM
import Derived.Test.YtakmfjnfkjdbfabBits
namespace Go.Proofs.Ytakmfjnfkjdbfab
open Go.RowKit
namespace Cell

theorem rd_at {w wr : World} {B n b off k y : Nat} {l : List Nat} (h : Rd w B 1 (some ⟨b, off, none⟩) n (l.flatMap bcell)) (hn : 0 < n) (hB : Below B w wr) (hy : l[k]? = some y) : wr.cell? ⟨b, off + k, none⟩ = some (.int .u8 (y : Int)) := by
  obtain ⟨b', off', e, hb, hc⟩ := h.2 hn
  injection e with e
  injection e with e1 e2
  subst e1 e2
  rw [hB.cell hb]
  exact hc k _ (by rw [bcell_at, hy]; rfl)
theorem rd_some {w : World} {B C n : Nat} {A : Option Addr} {xs : List Value} (h : Rd w B C A n xs) (hn : 0 < n) : ∃ b off, A = some ⟨b, off, none⟩ ∧ b < B := by
  obtain ⟨b, off, e, hb, _⟩ := h.2 hn
  exact ⟨b, off, e, hb⟩
def MayTo (o n : List Nat) (k : Nat) : Prop := ∀ j, j < k → mayB (o.getD j 0) (n.getD j 0) = true
theorem MayTo.snoc {o n : List Nat} {k : Nat} (h : MayTo o n k) (hk : mayB (o.getD k 0) (n.getD k 0) = true) : MayTo o n (k + 1) := fun j hj => by
  by_cases e : j = k
  · rw [e]; exact hk
  · exact h j (by omega)
theorem may_yes {o n : List Nat} (hl : o.length = n.length) (h : MayTo o n o.length) : mayL o n = true := by
  unfold mayL
  rw [Bool.and_eq_true, List.all_eq_true]
  exact ⟨by simpa using hl, fun j hj => h j (List.mem_range.1 hj)⟩
theorem may_no {o n : List Nat} {k : Nat} (hk : k < o.length) (h : mayB (o.getD k 0) (n.getD k 0) = false) : mayL o n = false := by
  unfold mayL
  rw [Bool.and_eq_false_iff]
  right
  rw [List.all_eq_false]
  exact ⟨k, List.mem_range.2 hk, by rw [h]; simp⟩
theorem may_len {o n : List Nat} (h : o.length ≠ n.length) : mayL o n = false := by simp [mayL, h]
theorem getD_of {l : List Nat} {k y : Nat} (h : l[k]? = some y) : l.getD k 0 = y := by rw [List.getD_eq_getElem?_getD, h]; rfl

set_option maxRecDepth 100000 in
set_option maxHeartbeats 800000 in
theorem may_any (A A' : Option Addr) (n c n' c' : Nat) (o t : List Nat) (w : World) (hr : Rd w w.heap.size 1 A n (o.flatMap bcell)) (hl : o.length = n) (hn : n ≤ 9223372036854775807) (hb : ∀ x ∈ o, x < 256)
    (hr' : Rd w w.heap.size 1 A' n' (t.flatMap bcell)) (hl' : t.length = n') (hn' : n' ≤ 9223372036854775807) (hb' : ∀ x ∈ t, x < 256) :
    Calls Try.prog 19 #[.slice A n c, .slice A' n' c'] w (Ret w (.bool (mayL o t))) := by
  have HR := Lib.hid hr
  have HL := Lib.hid hl
  have HB := Lib.hid hb
  have HR' := Lib.hid hr'
  have HL' := Lib.hid hl'
  have HB' := Lib.hid hb'
  clear hr hl hb hr' hl' hb'
  by_cases hne : n = n'
  · subst hne
    go_enter Try.func19, Try.ntmps19
    go_wp2
    go_loopg [13] n (fun g i wr => ∃ k : Nat, k ≤ n ∧ g = n - k ∧ i = .int .i64 k ∧ Hid (MayTo o t k) ∧ Below w.heap.size w wr)
    case atStart => exact ⟨0, Nat.zero_le _, rfl, rfl, Lib.hid (fun j hj => absurd hj (by omega)), Below.refl _ _⟩
    case round =>
      obtain ⟨k, hk, rfl, rfl, HM, hB⟩ := hrel
      by_cases hlt : k < n
      · obtain ⟨b, off, rfl, _⟩ := rd_some HR.out (by omega)
        obtain ⟨b', off', rfl, _⟩ := rd_some HR'.out (by omega)
        obtain ⟨x, hx⟩ : ∃ x, o[k]? = some x := ⟨_, List.getElem?_eq_getElem (by rw [HL.out]; exact hlt)⟩
        obtain ⟨y, hy⟩ : ∃ y, t[k]? = some y := ⟨_, List.getElem?_eq_getElem (by rw [HL'.out]; exact hlt)⟩
        have d0 : ∀ z : LaterOf wr, z.w.cell? ⟨b, off + k, none⟩ = some (.int .u8 (x : Int)) := fun z => z.cell (rd_at HR.out (by omega) hB hx)
        have d1 : ∀ z : LaterOf wr, z.w.cell? ⟨b', off' + k, none⟩ = some (.int .u8 (y : Int)) := fun z => z.cell (rd_at HR'.out (by omega) hB hy)
        have hx8 := HB.out x (List.mem_of_getElem? hx)
        have hy8 := HB'.out y (List.mem_of_getElem? hy)
        have e1 := u8_andNot_nat y x hy8 hx8
        have hm : mayB (o.getD k 0) (t.getD k 0) = decide (y &&& (255 - x) = 0) := by rw [getD_of hx, getD_of hy]; rfl
        obtain ⟨r, hrr⟩ : ∃ r, r = y &&& (255 - x) := ⟨_, rfl⟩
        rw [← hrr] at e1 hm
        have i0 : (0 : Int) ≤ (k : Int) := by omega
        have i1 : (k : Int) < (n : Int) := by omega
        have hlt' : k < o.length := by rw [HL.out]; exact hlt
        clear hrr hx hy
        by_cases hr0 : r = 0
        · have ht : ((r : Int) != 0) = false := by simp [hr0]
          have HN := Lib.hid (HM.out.snoc (by rw [hm]; simp [hr0]))
          clear hm hr0
          go_upto_region 6 with (fail)
          refine wp_region_later (by kernel_rfl) (by kernel_rfl) ?_
          repeat (go_big_quiet_step (fail))
          refine wpQuiet_nil ?_; intro xw hw'; obtain ⟨xq, hw''⟩ := hw'; obtain ⟨xw0, xh⟩ := xq; change xw = xw0 at hw''; subst hw''
          clear d0 d1
          go_wp2
          go_roundg (n - (k + 1))
          case measure => omega
          case rel => exact ⟨k + 1, by omega, rfl, by go_num, HN, hB.trans (xh.mono hB.size)⟩
        · have ht : ((r : Int) != 0) = true := by simp [hr0]
          have HN := Lib.hid (may_no hlt' (by rw [hm]; simp [hr0]))
          clear hm hr0
          go_upto_region 6 with (fail)
          refine wp_region_later (by kernel_rfl) (by kernel_rfl) ?_
          repeat (go_big_quiet_step (fail))
          refine wpQuiet_nil ?_; intro xw hw'; obtain ⟨xq, hw''⟩ := hw'; obtain ⟨xw0, xh⟩ := xq; change xw = xw0 at hw''; subst hw''
          clear d0 d1
          go_wp2
          go_ret
          exact Ret.mk (bool_eq HN.out.symm) (hB.trans (xh.mono hB.size))
      · go_wp2
        go_ret
        exact Ret.mk (bool_eq (may_yes (by rw [HL.out, HL'.out]) (by rw [HL.out, show n = k by omega]; exact HM.out)).symm) hB
  · have ht : ((n : Int) != (n' : Int)) = true := by simp; omega
    have HN := Lib.hid (may_len (o := o) (n := t) (by rw [HL.out, HL'.out]; exact hne))
    clear hne
    go_enter Try.func19, Try.ntmps19
    go_wp2
    go_ret
    exact Ret.mk (bool_eq HN.out.symm) (Below.refl _ _)

def checkE (o t : List Nat) : Int := if o.length ≠ t.length then 1 else if mayL o t = true then 0 else 6

set_option maxRecDepth 100000 in
set_option maxHeartbeats 800000 in
theorem check_any (A A' : Option Addr) (n c n' c' : Nat) (o t : List Nat) (w : World) (hr : Rd w w.heap.size 1 A n (o.flatMap bcell)) (hl : o.length = n) (hn : n ≤ 9223372036854775807) (hb : ∀ x ∈ o, x < 256)
    (hr' : Rd w w.heap.size 1 A' n' (t.flatMap bcell)) (hl' : t.length = n') (hn' : n' ≤ 9223372036854775807) (hb' : ∀ x ∈ t, x < 256) :
    Calls Try.prog 51 #[.slice A n c, .slice A' n' c'] w (Ret w (.int .i64 (checkE o t))) := by
  have cM := may_any A A' n c n' c' o t w hr hl hn hb hr' hl' hn' hb'
  by_cases hne : n = n'
  · subst hne
    cases hm : mayL o t with
    | true =>
      have HE : Hid (checkE o t = 0) := Lib.hid (by simp [checkE, hl, hl', hm])
      rw [hm] at cM
      have HM := Lib.hid cM
      clear hm hl hl' hb hb' hr hr' cM
      go_enter Try.func51, Try.ntmps51
      go_wp2_with fail
      refine HM.out.mono ?_; rintro e w1 ⟨rfl, hb1⟩
      go_wp2
      go_ret
      exact Ret.mk (int_eq HE.out.symm) hb1
    | false =>
      have HE : Hid (checkE o t = 6) := Lib.hid (by simp [checkE, hl, hl', hm])
      rw [hm] at cM
      have HM := Lib.hid cM
      clear hm hl hl' hb hb' hr hr' cM
      go_enter Try.func51, Try.ntmps51
      go_wp2_with fail
      refine HM.out.mono ?_; rintro e w1 ⟨rfl, hb1⟩
      go_wp2
      go_ret
      exact Ret.mk (int_eq HE.out.symm) hb1
  · have ht : ((n : Int) != (n' : Int)) = true := by simp; omega
    have HE : Hid (checkE o t = 1) := Lib.hid (by simp [checkE, hl, hl', hne])
    clear hne hl hl' hb hb' hr hr' cM
    go_enter Try.func51, Try.ntmps51
    go_wp2
    go_ret
    exact Ret.mk (int_eq HE.out.symm) (Below.refl _ _)

theorem bool_info : (Try.prog.info? 4).map (fun i => (i.zero, i.size, i.bytes)) = some (some (.bool false), 1, 1) := by kernel_rfl
/-- the first m bits of f, as cells -/
def bl (f : Nat → Bool) (m : Nat) : List Value := (List.range m).map fun k => .bool (f k)
theorem bl_len (f : Nat → Bool) (m : Nat) : (bl f m).length = m := by simp [bl]
theorem bl_at {f : Nat → Bool} {m k : Nat} (h : k < m) : (bl f m)[k]? = some (.bool (f k)) := by simp [bl, h]
theorem bl_snoc (f : Nat → Bool) (m : Nat) : bl f (m + 1) = bl f m ++ [.bool (f m)] := by simp [bl, List.range_succ]

set_option maxRecDepth 100000 in
set_option maxHeartbeats 800000 in
theorem cbits_any (A : Option Addr) (n c : Nat) (l : List Nat) (w : World) (hr : Rd w w.heap.size 1 A n (l.flatMap bcell)) (hl : l.length = n) (hn : n ≤ 1048576) (hb : ∀ x ∈ l, x < 256) :
    Calls Try.prog 53 #[.slice A n c] w (OwnRet w 4 1 (8 * n) (bl (bit l) (8 * n))) := by
  obtain ⟨i0, hi, hz0, hz1, hz2⟩ := info_parts bool_info
  have HR := Lib.hid hr
  have HL := Lib.hid hl
  have HB := Lib.hid hb
  clear hr hl hb
  go_enter Try.func53, Try.ntmps53
  go_wp2
  go_loopg [3, 8] n (fun g v i wr => ∃ k : Nat, k ≤ n ∧ g = n - k ∧ i = .int .i64 k ∧ wr.ownsRow w.heap.size 4 1 v (8 * k) (bl (bit l) (8 * k)) ∧ Below w.heap.size w wr)
  case atStart => exact ⟨0, Nat.zero_le _, rfl, rfl, own_none, Below.refl _ _⟩
  case round =>
    obtain ⟨k, hk, rfl, rfl, hown, hB⟩ := hrel
    have HO := Lib.hid hown
    clear hown
    by_cases hlt : k < n
    · obtain ⟨b, off, rfl, _⟩ := rd_some HR.out (by omega)
      obtain ⟨x, hx⟩ : ∃ x, l[k]? = some x := ⟨_, List.getElem?_eq_getElem (by rw [HL.out]; exact hlt)⟩
      have c0 := rd_at HR.out (by omega) hB hx
      have hx8 := HB.out x (List.mem_of_getElem? hx)
      have HX := Lib.hid (getD_of hx)
      obtain ⟨wo, rfl⟩ : ∃ wo : World, wo = wr := ⟨_, rfl⟩
      clear hx
      go_wp2
      go_loopg [3, 5, 12] 8 (fun g v z i wi => ∃ (j y : Nat), j ≤ 8 ∧ g = 8 - j ∧ i = .int .i64 j ∧ z = .int .u8 (y : Int) ∧ y < 256 ∧ Hid (y = x / 2 ^ j) ∧ wi.ownsRow w.heap.size 4 1 v (8 * k + j) (bl (bit l) (8 * k + j)) ∧ Below w.heap.size w wi)
      case atStart => exact ⟨0, x, by omega, rfl, rfl, rfl, hx8, Lib.hid (by simp), HO.out, hB⟩
      case round =>
        obtain ⟨j, y, hj, rfl, rfl, rfl, hy, HY, hown, hBi⟩ := hrel
        have HO' := Lib.hid hown
        clear hown
        by_cases hj8 : j < 8
        · obtain ⟨bt, hbt⟩ : ∃ bt, bt = ((y : Int) % 2 == 1) := ⟨_, rfl⟩
          have HBT : Hid (bit l (8 * k + j) = bt) := Lib.hid (by
            unfold bit
            rw [show (8 * k + j) / 8 = k by omega, show (8 * k + j) % 8 = j by omega, HX.out, ← half_bit, ← HY.out, hbt, Bool.eq_iff_iff]
            simp
            omega)
          have ebt := hbt.symm
          have hzi := hBi.size
          have how := own_below HO'.out ((Below.refl _ wr).alloc (Nat.le_refl _) (.cells #[.bool bt] 4))
          have hnew := Rd.of_own (own_new wr 4 #[.bool bt] 1 1 rfl (by simp [maxLen]) (Nat.le_refl _))
          have HN : Hid (y / 2 = x / 2 ^ (j + 1)) := Lib.hid (by rw [HY.out, Nat.pow_succ, Nat.div_div_eq_div_mul])
          clear hbt
          go_wp2_with (at_builtin; refine wpList_append_rd _ rfl (.tmp 14) (.tmp 18) 39 rfl w.heap.size 4 i0 (.bool false) 1 1 Try.underlying39 hi hz0 hz1 hz2 rfl (by omega) _ (8 * k + j) _ rfl how _ _ 1 1 _ rfl hnew (by simp [Value.oneCell']) (by simp only [maxLen]; omega) (by omega) (by simp; omega) ?_; intro v2 w2 hown2 hg2 hat2)
          have hB2 := below_grown (hBi.alloc hzi _) how hg2 (by simp; omega)
          go_roundg (8 - (j + 1))
          case measure => omega
          case rel => exact ⟨j + 1, y / 2, by omega, rfl, by go_num, int_eq (by omega), by omega, HN, by rw [show 8 * k + (j + 1) = 8 * k + j + 1 by omega, bl_snoc, HBT.out]; exact hown2, hB2⟩
        · obtain rfl : j = 8 := by omega
          go_wp2
          go_roundg (n - (k + 1))
          case measure => omega
          case rel => exact ⟨k + 1, by omega, rfl, by go_num, HO'.out, hBi⟩
    · obtain rfl : k = n := by omega
      go_wp2
      go_ret
      exact ⟨_, rfl, HO.out, hB⟩
end Cell
end Go.Proofs.Ytakmfjnfkjdbfab
