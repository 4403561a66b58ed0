/-
  Walks of strings.IndexRune at the two forbidden bytes, of IndexAny, ContainsAny, and of both Good functions. Conditions: none beyond each theorem's own premises.
-/
import Derived.Test.YtgfldhdmdeeknaaGreatDoorDrMo
import Derived.Test.YtgfldhdmdeeknaaGreatDoorShelfD
import Derived.Test.YtgfldhdmdeeknaaGreatDoorBase
import Derived.Test.YtgfldhdmdeeknaaGreatDoorStrB
import Derived.Laws.RangeAny
import Derived.Shelf.Small.Utf8
import Derived.WalkMore
import Derived.Lib.OthersKept
import Derived.BigRegion
namespace Go.Proofs.YtgfldhdmdeeknaaGreatDoor
open Go.RowKit Go.Shelf
set_option linter.unusedVariables false
namespace Dr

/-- '/' and NUL -/
abbrev bad2 : ByteArray := ⟨#[47, 0]⟩
theorem encode_wide {r : Nat} (h : 128 ≤ r) : ∃ rs : ByteArray, Utf8.encode (r : Int) = rs ∧ 2 ≤ rs.size ∧ rs.size ≤ 4 ∧ (rs.size = 2 → bAt rs 1 ≠ 0) := by
  refine ⟨_, rfl, ?_⟩
  obtain ⟨c, hc, hc2⟩ : ∃ c : Nat, (if Utf8.valid (r : Int) then (r : Int).toNat else Utf8.runeError) = c ∧ 128 ≤ c := by
    refine ⟨_, rfl, ?_⟩
    split
    · simpa using h
    · decide
  unfold Utf8.encode
  rw [hc]
  simp only
  rw [if_neg (by omega)]
  split
  · refine ⟨by simp [ByteArray.size], by simp [ByteArray.size], fun _ => ?_⟩
    show (UInt8.ofNat (0x80 + c % 64)).toNat ≠ 0
    rw [UInt8.toNat_ofNat']
    omega
  · split
    · exact ⟨by simp [ByteArray.size], by simp [ByteArray.size], fun h => by simp [ByteArray.size] at h⟩
    · exact ⟨by simp [ByteArray.size], by simp [ByteArray.size], fun h => by simp [ByteArray.size] at h⟩
/-- a byte of a string -/
theorem run_index_at (t : TypeId) (s : ByteArray) (k : Nat) (hk : k < s.size) (h : Tryz.prog.underlying t = some .string) (w : World) : (Instr.index t (.string s) (.int .i64 (k : Int))).run Tryz.prog w = .ok (.int .u8 (bAt s k : Int)) w := by
  rw [run_index_string w t s .i64 (k : Int) h, dif_pos ⟨by omega, by omega⟩]
  unfold bAt
  have e : s.get! k = s[k]'hk := by simp [ByteArray.get!, getElem!_pos, hk]; rfl
  rw [e]
  rfl

set_option maxRecDepth 100000 in
set_option maxHeartbeats 1600000 in
theorem indexRune_wide (r : Nat) (w : World) (h : 128 ≤ r) (h2 : r < 1114112) :
    Calls Tryz.prog 117 #[.string bad2, .int .i32 (r : Int)] w (fun e w' => e = .returned (.int .i64 (-1)) ∧ Below w.heap.size w w') := by
  have h0 : (0 : Int) ≤ (r : Int) := by omega
  have h1 : ¬ (r : Int) < 128 := by omega
  by_cases hr : r = 65533
  · subst hr
    go_enter Tryz.func117, Tryz.ntmps117
    go_wp2
    go_loopg [] 2 (fun g wx => ∃ i : Nat, i + g = 2 ∧ wx = w.iter bad2 i)
    case atStart => exact ⟨0, rfl, rfl⟩
    case round =>
      obtain ⟨i, hig, rfl⟩ := hrel
      have hi : i = 2 ∨ i = 1 ∨ i = 0 := by omega
      rcases hi with rfl | rfl | rfl
      · have hnx := fun ty => run_next_end (P := Tryz.prog) w bad2 2 ty (by decide)
        go_wp2
        go_ret
        exact ⟨rfl, (Below.refl _ _).alloc (Nat.le_refl _) _⟩
      · obtain rfl : gk = 1 := by omega
        have hnx : ∀ ty, (Instr.next (.pointer (some ⟨w.heap.size, 0, none⟩)) true ty).run Tryz.prog (w.iter bad2 1) = .ok (.tuple #[.bool true, .int .i64 1, .int .i32 0]) (w.iter bad2 2) := fun ty => run_next_ascii w bad2 1 ty (by decide) (by decide)
        go_wp2
        go_roundg 0
        case measure => omega
        case rel => exact ⟨2, rfl, rfl⟩
      · obtain rfl : gk = 2 := by omega
        have hnx : ∀ ty, (Instr.next (.pointer (some ⟨w.heap.size, 0, none⟩)) true ty).run Tryz.prog (w.iter bad2 0) = .ok (.tuple #[.bool true, .int .i64 0, .int .i32 47]) (w.iter bad2 1) := fun ty => run_next_ascii w bad2 0 ty (by decide) (by decide)
        go_wp2
        go_roundg 1
        case measure => omega
        case rel => exact ⟨1, rfl, rfl⟩
  · have hz : ((r : Int) == 65533) = false := by simp; omega
    obtain ⟨vb, hvb⟩ : ∃ vb, Lib.validRune (r : Int) = vb := ⟨_, rfl⟩
    have cV : Hid (Calls Tryz.prog 122 #[.int .i32 (r : Int)] w (fun e w' => e = .returned (.bool vb) ∧ w' = w)) := Lib.hid (by
      have h := Any.utf8_ValidRune { Tryz.idxAny with } (r : Int) w
      rw [hvb] at h
      exact h)
    clear hvb
    cases vb with
    | false =>
      go_enter Tryz.func117, Tryz.ntmps117
      go_wp2_with fail
      refine cV.out.mono ?_; rintro en w1 ⟨rfl, rfl⟩
      go_wp2
      go_ret
      exact ⟨rfl, Below.refl _ _⟩
    | true =>
      obtain ⟨rs, hrs, hs2, hs4, hb1⟩ := encode_wide h
      have hcv : ∀ W, (convert 21 9 (.int .i32 (r : Int))).run Tryz.prog W = .ok (.string rs) W := fun W => by
        rw [← hrs]
        simp [convert, run_underlying Tryz.underlying21, run_underlying Tryz.underlying9, Conv.intToString]
      obtain ⟨l, hl⟩ : ∃ l, l + 1 = rs.size := ⟨rs.size - 1, by omega⟩
      have k1 : (rs.size : Int) - 1 = (l : Int) := by omega
      have kb : rs.size ≤ 4 := hs4
      have hl1 : 1 ≤ l := by omega
      have hl4 : l ≤ 3 := by omega
      have HB := Lib.hid hb1
      have HLR := Lib.hid hl
      clear hrs hb1 h hl
      go_enter Tryz.func117, Tryz.ntmps117
      go_wp2_with fail
      refine cV.out.mono ?_; rintro en w1 ⟨rfl, rfl⟩
      clear cV
      go_wp2
      go_step3
      go_wp2
      go_loopg [9] 1 (fun g vi wr => vi = .int .i64 (l : Int) ∧ wr = w1)
      case atStart => exact ⟨rfl, rfl⟩
      case round =>
        obtain ⟨rfl, rfl⟩ := hrel
        by_cases hl2 : l = 1
        · subst hl2
          obtain ⟨bv, hbv⟩ : ∃ bv, bv = bAt rs 1 := ⟨_, rfl⟩
          have hb0 : bv ≠ 0 := by rw [hbv]; exact HB.out (by have := HLR.out; omega)
          have hx1 : ∀ W, (Instr.index 9 (.string bad2) (.int .i64 1)).run Tryz.prog W = .ok (.int .u8 0) W := fun W => run_index_at 9 bad2 1 (by decide) Tryz.underlying9 W
          have hx2 : ∀ W, (Instr.index 9 (.string rs) (.int .i64 1)).run Tryz.prog W = .ok (.int .u8 (bv : Int)) W := fun W => by rw [hbv]; exact run_index_at 9 rs 1 (by omega) Tryz.underlying9 W
          have hx3 : ∀ W, (Instr.slice 9 (.string bad2) (some (.int .i64 2)) none none).run Tryz.prog W = .ok (.string ⟨#[]⟩) W := fun W => by
            rw [run_slice_string_from_if W 9 bad2 .i64 2 Tryz.underlying9]
            rfl
          have hnb : ((0 : Int) == (bv : Int)) = false := by simp; omega
          have cI : Hid (∀ W : World, Calls Tryz.prog 121 #[.string ⟨#[]⟩, .int .u8 (bv : Int)] W (Ret W (.int .i64 (-1)))) := Lib.hid (fun W => (Any.strings_IndexByte { Tryz.idxAny with } ⟨#[]⟩ (bv : Int) W).mono fun e w' h => (show Ret W (.int .i64 (-1)) e w' from ⟨h.1, by rw [h.2]; exact Below.refl _ _⟩))
          clear hbv HB HLR
          go_wp2
          go_step3
          go_wp2
          go_quiet (fail)
          go_wp2
          generalize hxw : World.drewN wr _ = xw
          have xh : Below wr.heap.size wr xw := by rw [← hxw]; exact below_drewN (Below.refl _ _) _
          clear hxw
          have XH := Lib.hid xh
          clear xh
          refine wp_region_later (by kernel_rfl) (by kernel_rfl) ?_
          repeat (go_big_quiet_step (with_reducible exact Calls.later (cI.out _)))
          refine wpQuiet_nil ?_; intro yw hw'; obtain ⟨xq, hw''⟩ := hw'; obtain ⟨yw0, yh⟩ := xq; change yw = yw0 at hw''; subst hw''
          go_wp2
          simp only [Exit.noGoto_ret]
          go_wp2
          simp only [Exit.noGoto_ret]
          go_ret
          exact ⟨rfl, XH.out.trans (yh.mono XH.out.size)⟩
        · have hll : ¬ (l : Int) < 2 := by omega
          go_wp2
          go_ret
          exact ⟨rfl, Below.refl _ _⟩

/-- a byte that a name may not hold -/
def badB (b : UInt8) : Bool := bad2.data.toList.contains b
theorem badB_iff (b : UInt8) : badB b = true ↔ (b = 0 ∨ b = 47) := by
  unfold badB
  simp
  exact Or.comm
theorem idx_nonneg (b : UInt8) : (0 : Int) ≤ Lib.indexByte bad2.data.toList b ↔ badB b = true := by
  have h := Lib.contains_iff_indexByte bad2.data.toList b
  unfold badB
  rw [h, decide_eq_true_eq]
theorem data_at (s : ByteArray) (i : Nat) (hi : i < s.size) : s.data.toList[i]? = some (s.get! i) := by
  have e : s.get! i = s[i]'hi := by simp [ByteArray.get!, getElem!_pos, hi]; rfl
  rw [e]
  exact Lib.data_getElem? s i hi
set_option maxRecDepth 100000 in
set_option maxHeartbeats 1600000 in
theorem indexAny_short (s : ByteArray) (w : World) (h8 : s.size ≤ 8) :
    Calls Tryz.prog 105 #[.string s, .string bad2] w (fun e w' => ∃ k : Int, e = .returned (.int .i64 k) ∧ (0 ≤ k ↔ ∃ b ∈ s.data.toList, badB b = true) ∧ Below w.heap.size w w') := by
  have h8z : decide ((8 : Int) < (s.size : Int)) = false := decide_eq_false (by omega)
  have cU : Hid (Calls Tryz.prog 119 #[.int .i64 (s.size : Int)] w (fun e w' => e = .returned (.bool false) ∧ w' = w)) := Lib.hid (by
    have h := Any.strings_shouldUseASCIISet { Tryz.idxAny with } (s.size : Int) w
    rw [h8z] at h
    exact h)
  clear h8z
  go_enter Tryz.func105, Tryz.ntmps105
  go_wp2_with fail
  refine cU.out.mono ?_; rintro en w1 ⟨rfl, rfl⟩
  clear cU
  go_wp2
  go_loopg [9, 10] s.size (fun g _ _ wx => ∃ i : Nat, i ≤ s.size ∧ g = s.size - i ∧ Below w1.heap.size w1 wx ∧ wx.heap[w1.heap.size]? = some (.stringIter s i) ∧ Hid (∀ j b, j < i → s.data.toList[j]? = some b → badB b = false))
  case atStart => exact ⟨0, Nat.zero_le _, rfl, (Below.refl _ _).alloc (Nat.le_refl _) _, w1.iter_heap s 0, Lib.hid (fun j b h => by omega)⟩
  case round =>
    obtain ⟨i, hi, rfl, hb, hit, HN⟩ := hrel
    have HI := Lib.hid hit
    have HB := Lib.hid hb
    by_cases hlt : i < s.size
    · have hnx0 := fun ty => Lib.run_next_any_at (P := Tryz.prog) wr w1.heap.size s i ty hit hlt
      obtain ⟨c, hc⟩ : ∃ c, c = (Utf8.decode s i).1 := ⟨_, rfl⟩
      obtain ⟨wd, hwd⟩ : ∃ wd, wd = (Utf8.decode s i).2 := ⟨_, rfl⟩
      rw [← hc, ← hwd] at hnx0
      have hit2 := Lib.iterAt_heap wr w1.heap.size s i (i + wd) hit
      have hb2 := Lib.below_iterAt hb (k := w1.heap.size) (Nat.le_refl _) s (i + wd)
      obtain ⟨W1, hW1⟩ : ∃ W1, W1 = wr.iterAt w1.heap.size s (i + wd) := ⟨_, rfl⟩
      rw [← hW1] at hnx0 hit2 hb2
      have hx := data_at s i hlt
      clear hW1 hit hb
      by_cases ha : bAt s i < 128
      · rw [decode_ascii ha] at hc hwd
        simp only at hc hwd
        subst hc hwd
        obtain ⟨x, hx0⟩ : ∃ x, x = s.get! i := ⟨_, rfl⟩
        rw [← hx0] at hx
        have hbx : bAt s i = x.toNat := by rw [hx0]; rfl
        rw [hbx] at hnx0 ha
        have hxb : ((x.toNat : Int)).toNat.toUInt8 = x := by simp
        obtain ⟨iv, hiv⟩ : ∃ iv, iv = Lib.indexByte bad2.data.toList x := ⟨_, rfl⟩
        have hib : (0 : Int) ≤ iv ↔ badB x = true := by rw [hiv]; exact idx_nonneg x
        have cR : Hid (Calls Tryz.prog 117 #[.string bad2, .int .i32 (x.toNat : Int)] W1 (fun e w' => e = .returned (.int .i64 iv) ∧ w' = W1)) := Lib.hid (by
          have h := Any.strings_IndexRune_ascii { Tryz.idxAny with } bad2 (x.toNat : Int) W1 (by omega) (by omega)
          rw [hxb, ← hiv] at h
          exact h)
        have HX := Lib.hid hx
        have HIT := Lib.hid hit2
        have HB2 := Lib.hid hb2
        have HIV := Lib.hid hib
        have hnx := hnx0
        clear hx0 hbx hxb hiv hib hx hit2 hb2 hnx0
        cases hbb : badB x with
        | true =>
          have hge : (0 : Int) ≤ iv := HIV.out.2 hbb
          have HBB := Lib.hid hbb
          clear hbb
          go_wp2_with fail
          refine cR.out.mono ?_; rintro en w2 ⟨rfl, rfl⟩
          go_wp2
          go_ret
          exact ⟨(i : Int), rfl, ⟨fun _ => ⟨x, List.mem_of_getElem? HX.out, HBB.out⟩, fun _ => by omega⟩, HB2.out⟩
        | false =>
          have hge : ¬ (0 : Int) ≤ iv := fun h => by rw [HIV.out.1 h] at hbb; cases hbb
          have HN2 : Hid (∀ j b, j < i + 1 → s.data.toList[j]? = some b → badB b = false) := Lib.hid (fun j b hj hb => by
            by_cases e : j = i
            · subst e
              rw [HX.out] at hb
              cases hb
              exact hbb
            · exact HN.out j b (by omega) hb)
          clear hbb
          go_wp2_with fail
          refine cR.out.mono ?_; rintro en w2 ⟨rfl, rfl⟩
          go_wp2
          go_roundg (s.size - (i + 1))
          case measure => omega
          case rel => exact ⟨i + 1, by omega, rfl, HB2.out, HIT.out, HN2⟩
      · obtain ⟨d1, d2, d3, d4⟩ := decode_wide ha
        rw [← hc] at d1 d2
        rw [← hwd] at d3 d4
        have cR := Lib.hid (indexRune_wide c W1 d1 d2)
        have hle : i + wd ≤ s.size := by
          by_cases e : wd = 1
          · omega
          · have := (d4 (wd - 1) (by omega) (by omega)).1
            omega
        have hno : ∀ b : UInt8, 128 ≤ b.toNat → badB b = false := fun b hb => by
          cases h : badB b with
          | false => rfl
          | true =>
            rcases (badB_iff b).1 h with rfl | rfl
            · simp at hb
            · simp at hb
        have HN2 : Hid (∀ j b, j < i + wd → s.data.toList[j]? = some b → badB b = false) := Lib.hid (fun j b hj hb => by
          by_cases e : j < i
          · exact HN.out j b e hb
          · by_cases e2 : j = i
            · subst e2
              rw [hx] at hb
              cases hb
              exact hno _ (by unfold bAt at ha; omega)
            · have h5 := d4 (j - i) (by omega) (by omega)
              rw [show i + (j - i) = j by omega] at h5
              rw [data_at s j h5.1] at hb
              cases hb
              exact hno _ h5.2)
        have HIT := Lib.hid hit2
        have HB2 := Lib.hid hb2
        have hnx := hnx0
        clear d1 d2 d4 hno hx hit2 hb2 hnx0 hc hwd ha
        go_wp2_with fail
        refine cR.out.mono ?_; rintro en w2 ⟨rfl, hb3⟩
        have HB3 := Lib.hid (HB2.out.trans (hb3.mono HB2.out.size))
        have HIT3 : Hid (w2.heap[w1.heap.size]? = some (.stringIter s (i + wd))) := Lib.hid ((hb3.block _ (Array.getElem?_eq_some_iff.1 HIT.out).1).trans HIT.out)
        clear hb3
        go_wp2
        go_roundg (s.size - (i + wd))
        case measure => omega
        case rel => exact ⟨i + wd, hle, rfl, HB3.out, HIT3.out, HN2⟩
    · have hnx := fun ty => Lib.run_next_end_at (P := Tryz.prog) wr w1.heap.size s i ty hit hlt
      clear hit hb
      go_wp2
      go_ret
      refine ⟨-1, rfl, ⟨fun h => absurd h (by decide), fun ⟨b, hb, hbb⟩ => ?_⟩, HB.out⟩
      obtain ⟨j, hj⟩ := List.mem_iff_getElem?.1 hb
      have hjl := (List.getElem?_eq_some_iff.1 hj).1
      have h2 := HN.out j b (by rw [← Lib.size_eq] at hjl; omega) hj
      rw [hbb] at h2
      cases h2

theorem indexAny_iff (chars : List UInt8) : ∀ s : List UInt8, 0 ≤ Lib.indexAny s chars ↔ ∃ b ∈ s, chars.contains b = true
  | [] => by simp [Lib.indexAny]
  | x :: s => by
    have ih := indexAny_iff chars s
    have hge := Lib.indexAny_ge chars s
    unfold Lib.indexAny
    cases hx : chars.contains x with
    | true =>
      rw [if_pos rfl]
      exact ⟨fun _ => ⟨x, by simp, hx⟩, fun _ => Int.le_refl _⟩
    | false =>
      rw [if_neg (by simp)]
      by_cases h : Lib.indexAny s chars = -1
      · rw [if_pos (by rw [h]; rfl)]
        refine ⟨fun h2 => absurd h2 (by decide), fun ⟨b, hb, hbb⟩ => ?_⟩
        rcases List.mem_cons.1 hb with rfl | hb
        · rw [hx] at hbb; cases hbb
        · have := ih.2 ⟨b, hb, hbb⟩
          omega
      · rw [if_neg (by simpa using h)]
        refine ⟨fun _ => ?_, fun _ => by omega⟩
        obtain ⟨b, hb, hbb⟩ := ih.1 (by omega)
        exact ⟨b, by simp [hb], hbb⟩
theorem set_info : (Tryz.prog.info? (Tryz.idxAny_ren.t 116)).map (fun i => (i.zero, i.size)) = some (some (.agg (Array.replicate 256 (.bool false))), 256) := by kernel_rfl
theorem indexAny_any (s : ByteArray) (w : World) (hs : s.size < 4294967281) :
    Calls Tryz.prog 105 #[.string s, .string bad2] w (fun e w' => ∃ k : Int, e = .returned (.int .i64 k) ∧ (0 ≤ k ↔ ∃ b ∈ s.data.toList, badB b = true) ∧ Below w.heap.size w w') := by
  by_cases h8 : s.size ≤ 8
  · exact indexAny_short s w h8
  · have h := Any.strings_IndexAny_long { Tryz.idxAny with } (zero_of_info set_info).1 (zero_of_info set_info).2 s bad2 w (by decide) (by omega) hs (by decide) (by
      intro j b hj
      have hm := List.mem_of_getElem? hj
      simp at hm
      rcases hm with rfl | rfl <;> decide)
    refine h.mono fun e w' ⟨he, hw⟩ => ⟨_, he, indexAny_iff _ _, ?_⟩
    rw [hw]
    exact ((Below.refl _ _).alloc (Nat.le_refl _) _).alloc (by simp) _
set_option maxRecDepth 100000 in
theorem containsAny_any (s : ByteArray) (b : Bool) (w : World) (hs : s.size < 4294967281) (hb : b = true ↔ ∃ x ∈ s.data.toList, badB x = true) :
    Calls Tryz.prog 77 #[.string s, .string bad2] w (Ret w (.bool b)) := by
  have cI := Lib.hid (indexAny_any s w hs)
  have HB := Lib.hid hb
  clear hb
  go_enter Tryz.func77, Tryz.ntmps77
  go_wp2_with fail
  refine cI.out.mono ?_; rintro en w1 ⟨k, rfl, hk, hb1⟩
  have HK := Lib.hid hk
  have HB1 := Lib.hid hb1
  clear hk hb1 cI
  cases b with
  | true =>
    have h0 : (0 : Int) ≤ k := HK.out.2 (HB.out.1 rfl)
    go_wp2
    go_ret
    exact Ret.mk rfl HB1.out
  | false =>
    have h0 : ¬ (0 : Int) ≤ k := fun h => absurd (HB.out.2 (HK.out.1 h)) (by decide)
    go_wp2
    go_ret
    exact Ret.mk (bool_eq (decide_eq_false (by omega))) HB1.out
end Dr
end Go.Proofs.YtgfldhdmdeeknaaGreatDoor
