/-
  Paths: walks of strings.Join at '/', path.whole, path.common and the reference's PPath. Conditions: none beyond each theorem's own premises.
-/
import Derived.Test.YtgidkaidljiddaaDoorPtP
import Derived.Test.YtgidkaidljiddaaDoorEq
import Derived.BigRegion
namespace Go.Proofs.YtgidkaidljiddaaDoor
open Go.RowKit Go.Shelf
set_option linter.unusedVariables false
namespace Pt

theorem bs_cat (x y : By) : bs x ++ bs y = bs (x ++ y) := by
  apply ByteArray.ext
  apply Array.ext'
  simp [bs]
theorem bs_slash : (⟨#[47]⟩ : ByteArray) = bs [47] := rfl
theorem bs_empty : (⟨#[]⟩ : ByteArray) = bs [] := rfl
theorem bs_ne {x y : By} (h : x ≠ y) : ((bs x).toList == (bs y).toList) = false := by
  rw [bs_toList, bs_toList]
  simp [h]

theorem extraJ : Builder.Extra Tryd.prog Tryd.join_ren where
  sizeBuilder := by kernel_rfl
  liesBuilder := by kernel_rfl
  t5 := Tryd.underlying5
  a5 := Tryd.isAgg5
  z5 := Tryd.sizeOf5
  v5 := Tryd.zeroValue5
  infoByte := by kernel_rfl
  cellsByte := by kernel_rfl
  sizeByte := by kernel_rfl
  neB5 := by decide
theorem join_bound (l : List By) : (Lib.join l [47]).length + 1 ≤ sumL l + l.length + 1 := by
  have h := whole_eq l
  have h2 := ppath_len l
  rw [← h] at h2
  simpa using h2
theorem join_any (A : Option Addr) (n c : Nat) (l : List By) (w : World) (hr : Rd w w.heap.size 1 A n (l.flatMap sc)) (hl : l.length = n) (hnc : n ≤ c) (hb : sumL l + l.length ≤ 8388608) :
    Calls Tryd.prog 35 #[.slice A n c, .string ⟨#[47]⟩] w (Ret w (.string (bs (Lib.join l [47])))) := by
  rcases Nat.eq_zero_or_pos n with rfl | h0
  · obtain rfl : l = [] := List.eq_nil_of_length_eq_zero hl
    exact (Any.strings_Join_none Tryd.join extraJ A c ⟨#[47]⟩ w).mono fun e w' ⟨he, hw⟩ => ⟨he, by rw [hw]; exact Below.refl _ _⟩
  · obtain ⟨b, off, rfl, hbl, hc⟩ := hr.at_ sc_len h0
    have hm : (l.map bs).map (·.data.toList) = l := by
      rw [List.map_map]
      exact (List.map_congr_left fun x _ => bs_data x).trans (List.map_id _)
    have hlm : (l.map bs).length = n := by rw [List.length_map, hl]
    have h := Any.strings_Join Tryd.join extraJ b off c (l.map bs) ⟨#[47]⟩ w (fun j x hx => by
      rw [List.getElem?_map] at hx
      cases hj : l[j]? with
      | none => rw [hj] at hx; cases hx
      | some y =>
        rw [hj] at hx
        cases hx
        have := hc j 0 y (.string (bs y)) hj rfl
        simpa using this) hbl (by rw [hlm]; omega) (by rw [hlm]; omega) (by
      rw [hm]
      have := join_bound l
      show (Lib.join l [47]).length ≤ _
      omega)
    rw [hlm, hm] at h
    exact h
set_option maxRecDepth 100000 in
theorem whole_any (A : Option Addr) (n c : Nat) (l : List By) (w : World) (hr : Rd w w.heap.size 1 A n (l.flatMap sc)) (hl : l.length = n) (hnc : n ≤ c) (hb : sumL l + l.length ≤ 8388608) :
    Calls Tryd.prog 26 #[.slice A n c] w (Ret w (.string (bs (ppath l)))) := by
  have cJ := Lib.hid (join_any A n c l w hr hl hnc hb)
  have HE : Hid (⟨#[47]⟩ ++ bs (Lib.join l [47]) = bs (ppath l)) := Lib.hid (by rw [bs_slash, bs_cat, ← whole_eq]; rfl)
  have hz : 1 + (bs (Lib.join l [47])).size ≤ 9223372036854775807 := by
    rw [bs_size]
    have := join_bound l
    omega
  clear hr hl
  go_enter Tryd.func26, Tryd.ntmps26
  go_wp2_with fail
  refine cJ.out.mono ?_; rintro en w1 ⟨rfl, hb1⟩
  have HB := Lib.hid hb1
  clear hb1 cJ
  go_wp2
  go_ret
  rw [HE.out]
  exact Ret.mk rfl HB.out

set_option maxRecDepth 100000 in
set_option maxHeartbeats 1600000 in
theorem common_any (A A' : Option Addr) (n n' c c' : Nat) (x y : List By) (w : World) (hr : Rd w w.heap.size 1 A n (x.flatMap sc)) (hr' : Rd w w.heap.size 1 A' n' (y.flatMap sc)) (hl : x.length = n) (hl' : y.length = n') (hn : n ≤ 1048578) (hn' : n' ≤ 1048578) :
    Calls Tryd.prog 39 #[.slice A n c, .slice A' n' c'] w (Ret w (.int .i64 (cmn x y : Int))) := by
  have HR := Lib.hid hr
  have HR' := Lib.hid hr'
  have HL := Lib.hid hl
  have HL' := Lib.hid hl'
  have HC := Lib.hid (cmn_le x y)
  clear hr hr' hl hl'
  go_enter Tryd.func39, Tryd.ntmps39
  go_wp2
  go_loopg [5] n (fun g i wr => ∃ k : Nat, k ≤ cmn x y ∧ g = n - k ∧ i = .int .i64 k ∧ Below w.heap.size w wr)
  case atStart => exact ⟨0, Nat.zero_le _, rfl, rfl, Below.refl _ _⟩
  case round =>
    obtain ⟨k, hk, rfl, rfl, hB⟩ := hrel
    have HB := Lib.hid hB
    have hk1 : k ≤ n := by have := HC.out.1; rw [HL.out] at this; omega
    clear hB
    by_cases hx1 : k < n
    · by_cases hx2 : k < n'
      · obtain ⟨u, hu⟩ : ∃ u, x[k]? = some u := ⟨_, List.getElem?_eq_getElem (by rw [HL.out]; exact hx1)⟩
        obtain ⟨v, hv⟩ : ∃ v, y[k]? = some v := ⟨_, List.getElem?_eq_getElem (by rw [HL'.out]; exact hx2)⟩
        obtain ⟨b, off, rfl, hb, hc⟩ := HR.out.at_ sc_len (by omega)
        obtain ⟨b', off', rfl, hb', hc'⟩ := HR'.out.at_ sc_len (by omega)
        have d1 : wr.cell? ⟨b, off + k, none⟩ = some (.string (bs u)) := (HB.out.cell (p := ⟨b, off + k, none⟩) hb).trans (by simpa using hc k 0 u _ hu rfl)
        have d2 : wr.cell? ⟨b', off' + k, none⟩ = some (.string (bs v)) := (HB.out.cell (p := ⟨b', off' + k, none⟩) hb').trans (by simpa using hc' k 0 v _ hv rfl)
        have HS := Lib.hid (cmn_step x y k u v hk hu hv)
        have i0 : (0 : Int) ≤ (k : Int) := by omega
        have i1 : (k : Int) < (n : Int) := by omega
        have i2 : (k : Int) < (n' : Int) := by omega
        by_cases huv : u = v
        · have heb : ((bs u).toList == (bs v).toList) = true := by rw [huv]; simp
          have HUV := Lib.hid huv
          clear hc hc' hu hv huv
          go_wp2
          go_quiet (fail)
          go_wp2
          generalize hxw : World.drewN wr _ = xw
          have xh : Below wr.heap.size wr xw := by rw [← hxw]; exact below_drewN (Below.refl _ _) _
          clear hxw
          go_roundg (n - (k + 1))
          case measure => omega
          case rel => exact ⟨k + 1, HS.out.2 HUV.out, rfl, by go_num, HB.out.trans (xh.mono HB.out.size)⟩
        · have heb : ((bs u).toList == (bs v).toList) = false := bs_ne huv
          have HK : Hid (k = cmn x y) := Lib.hid (cmn_end x y k hk (fun ⟨_, _, h⟩ => huv (by rw [hu, hv] at h; cases h; rfl)))
          clear hc hc' hu hv huv
          go_wp2
          go_quiet (fail)
          go_wp2
          generalize hxw : World.drewN wr _ = xw
          have xh : Below wr.heap.size wr xw := by rw [← hxw]; exact below_drewN (Below.refl _ _) _
          clear hxw
          go_ret
          exact Ret.mk (by rw [← HK.out]; rfl) (HB.out.trans (xh.mono HB.out.size))
      · have HK : Hid (k = cmn x y) := Lib.hid (cmn_end x y k hk (fun ⟨_, h, _⟩ => hx2 (by rw [← HL'.out]; exact h)))
        go_wp2
        go_quiet (fail)
        go_wp2
        generalize hxw : World.drewN wr _ = xw
        have xh : Below wr.heap.size wr xw := by rw [← hxw]; exact below_drewN (Below.refl _ _) _
        clear hxw
        go_ret
        exact Ret.mk (by rw [← HK.out]; rfl) (HB.out.trans (xh.mono HB.out.size))
    · have HK : Hid (k = cmn x y) := Lib.hid (cmn_end x y k hk (fun ⟨h, _, _⟩ => hx1 (by rw [← HL.out]; exact h)))
      go_wp2
      go_quiet (fail)
      go_wp2
      generalize hxw : World.drewN wr _ = xw
      have xh : Below wr.heap.size wr xw := by rw [← hxw]; exact below_drewN (Below.refl _ _) _
      clear hxw
      go_ret
      exact Ret.mk (by rw [← HK.out]; rfl) (HB.out.trans (xh.mono HB.out.size))

set_option maxRecDepth 100000 in
set_option maxHeartbeats 1600000 in
theorem ppath_any (A : Option Addr) (n c : Nat) (l : List By) (w : World) (hr : Rd w w.heap.size 1 A n (l.flatMap sc)) (hl : l.length = n) (hb : sumL l + l.length ≤ 8388608) :
    Calls Tryd.prog 15 #[.slice A n c] w (Ret w (.string (bs (ppath l)))) := by
  have HR := Lib.hid hr
  have HL := Lib.hid hl
  have HZ : Hid (∀ k, (slashed (l.take k)).length ≤ 8388608) := Lib.hid (fun k => by
    rw [slashed_len, List.length_take]
    have := sumL_take l k
    omega)
  have hn : n ≤ 8388608 := by omega
  clear hr hl hb
  go_enter Tryd.func15, Tryd.ntmps15
  go_wp2
  go_loopg [3, 8] n (fun g t i wr => ∃ k : Nat, k ≤ n ∧ g = n - k ∧ t = .string (bs (slashed (l.take k))) ∧ i = .int .i64 k ∧ Below w.heap.size w wr)
  case atStart => exact ⟨0, Nat.zero_le _, rfl, rfl, rfl, Below.refl _ _⟩
  case round =>
    obtain ⟨k, hk, rfl, rfl, rfl, hB⟩ := hrel
    have HB := Lib.hid hB
    clear hB
    by_cases hlt : k < n
    · obtain ⟨u, hu⟩ : ∃ u, l[k]? = some u := ⟨_, List.getElem?_eq_getElem (by rw [HL.out]; exact hlt)⟩
      obtain ⟨b, off, rfl, hb, hc⟩ := HR.out.at_ sc_len (by omega)
      have d1 : wr.cell? ⟨b, off + k, none⟩ = some (.string (bs u)) := (HB.out.cell (p := ⟨b, off + k, none⟩) hb).trans (by simpa using hc k 0 u _ hu rfl)
      have hnx : slashed (l.take (k + 1)) = slashed (l.take k) ++ 47 :: u := by rw [List.take_add_one, hu]; exact slashed_snoc _ _
      have hz1 := HZ.out (k + 1)
      rw [hnx] at hz1
      simp only [List.length_append, List.length_cons] at hz1
      have HE : Hid (bs (slashed (l.take k)) ++ (⟨#[47]⟩ ++ bs u) = bs (slashed (l.take (k + 1)))) := Lib.hid (by rw [bs_slash, bs_cat, bs_cat, hnx]; rfl)
      have i0 : (0 : Int) ≤ (k : Int) := by omega
      have i1 : (k : Int) < (n : Int) := by omega
      have z1 : 1 + (bs u).size ≤ 9223372036854775807 := by rw [bs_size]; omega
      have z2 : (bs (slashed (l.take k))).size + (1 + (bs u).size) ≤ 9223372036854775807 := by rw [bs_size, bs_size]; omega
      clear hc hu hnx hz1
      generalize bs (slashed (l.take k)) = S at z2 HE ⊢
      go_wp2
      go_roundg (n - (k + 1))
      case measure => omega
      case rel => exact ⟨k + 1, by omega, rfl, by rw [HE.out], by go_num, HB.out⟩
    · obtain rfl : k = n := by omega
      have hl2 : l.take k = l := List.take_of_length_le (by rw [HL.out]; omega)
      rw [hl2]
      by_cases he : l = []
      · subst he
        have z1 : (bs (slashed [])).toList.isEmpty = true := by rw [bs_toList]; rfl
        go_wp2
        go_ret
        exact Ret.mk rfl HB.out
      · have z1 : (bs (slashed l)).toList.isEmpty = false := by
          rw [bs_toList]
          have := slashed_nil_iff l
          simp [this, he]
        have HE : Hid (bs (slashed l) = bs (ppath l)) := Lib.hid (by unfold ppath; rw [if_neg he])
        clear he
        go_wp2
        go_ret
        exact Ret.mk (by rw [← HE.out]; rfl) HB.out
end Pt
end Go.Proofs.YtgidkaidljiddaaDoor
