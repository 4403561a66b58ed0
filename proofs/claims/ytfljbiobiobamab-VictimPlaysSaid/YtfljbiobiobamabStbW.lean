/-
  Walk of the comparison that the reference's GGreedy sorts by, and of the exchange, rotation and insertion of the library's stable sort. Conditions: none beyond each theorem's own premises.
-/
import Derived.Test.YtfljbiobiobamabStb
import Derived.Test.YtfljbiobiobamabSep
import Derived.Shelf.Abstract
import Derived.Deep.RegionLaw
import Derived.BigRegion
namespace Go.Proofs.Ytfljbiobiobamab
open Go.RowKit
set_option linter.unusedVariables false
namespace Vic

/-- a block's fill -/
structure Fm where
  (nd dn we : Int)
def Fm.cells (x : Fm) : List Value := [.int .i64 x.nd, .int .i64 x.dn, .int .i64 x.we]
theorem Fm.len : ∀ x : Fm, x.cells.length = 3 := fun _ => rfl
def Fm.ok (x : Fm) : Prop := (0 ≤ x.nd ∧ x.nd ≤ x.dn ∧ x.dn ≤ 4) ∧ 0 ≤ x.we ∧ x.we ≤ 1048576
def fAt (l : List Fm) (k : Nat) : Fm := l.getD k ⟨0, 0, 0⟩
theorem fAt_some {l : List Fm} {k : Nat} (h : k < l.length) : l[k]? = some (fAt l k) := by
  unfold fAt
  rw [List.getD_eq_getElem?_getD, List.getElem?_eq_getElem h]
  rfl
theorem fAt_mem {l : List Fm} {k : Nat} (h : k < l.length) : fAt l k ∈ l := List.mem_of_getElem? (fAt_some h)
theorem Fm.facts {l : List Fm} {k : Nat} {x : Fm} {b off B : Nat} {w w' : World} (hb : b < B) (hB : Below B w w') (hc : ∀ (j d : Nat) (x : Fm) (v : Value), l[j]? = some x → x.cells[d]? = some v → w.cell? ⟨b, off + (j * 3 + d), none⟩ = some v) (hx : l[k]? = some x) :
    w'.cell? ⟨b, off + k * 3, none⟩ = some (.int .i64 x.nd) ∧ w'.cell? ⟨b, off + k * 3 + 1, none⟩ = some (.int .i64 x.dn) ∧ w'.cell? ⟨b, off + k * 3 + 2, none⟩ = some (.int .i64 x.we) :=
  ⟨(hB.cell hb).trans (hc k 0 x _ hx rfl), (hB.cell hb).trans (hc k 1 x _ hx rfl), (hB.cell hb).trans (hc k 2 x _ hx rfl)⟩
def cmpZ (l : List Fm) (x y : Nat) : Int := if (fAt l x).nd = (fAt l y).nd then (fAt l x).we - (fAt l y).we else (fAt l x).nd - (fAt l y).nd
def qq (l : List Fm) (y x : Nat) : Bool := decide (cmpZ l y x < 0)
def leB (l : List Fm) (x y : Nat) : Bool := decide ((fAt l x).nd < (fAt l y).nd ∨ ((fAt l x).nd = (fAt l y).nd ∧ ((fAt l x).we < (fAt l y).we ∨ ((fAt l x).we = (fAt l y).we ∧ x ≤ y))))
theorem le_ord (l : List Fm) : Stb.Ordr (leB l) where
  tr := fun a b c h1 h2 => by
    unfold leB at *
    rw [decide_eq_true_eq] at *
    omega
  tot := fun a b h => by
    unfold leB at *
    rw [decide_eq_false_iff_not] at h
    rw [decide_eq_true_eq]
    omega
theorem cnd_lt (l : List Fm) {x y : Nat} (h : x < y) : Stb.Cnd (leB l) (qq l) x y := by
  unfold Stb.Cnd qq leB cmpZ
  rw [Bool.eq_iff_iff, Bool.not_eq_true', decide_eq_true_eq, decide_eq_false_iff_not]
  split <;> omega

/-- what the comparison reads -/
structure Env (w0 : World) (A : Option Addr) (n : Nat) (l : List Fm) : Prop where
  rd : Rd w0 w0.heap.size 3 A n (l.flatMap Fm.cells)
  len : l.length = n
  ok : ∀ f ∈ l, f.ok

set_option maxRecDepth 100000 in
set_option maxHeartbeats 1600000 in
theorem cmp_any (A : Option Addr) (n c gl : Nat) (l : List Fm) (w0 w : World) (x y : Nat) (hE : Env w0 A n l) (hB : Below w0.heap.size w0 w) (hc : w.cell? ⟨gl, 0, none⟩ = some (.slice A n c)) (hx : x < n) (hy : y < n) :
    Calls Try.prog 38 #[.int .i64 (x : Int), .int .i64 (y : Int), .pointer (some ⟨gl, 0, none⟩)] w (Ret w (.int .i64 (cmpZ l x y))) := by
  obtain ⟨b, off, rfl, hb, hcc⟩ := hE.rd.at_ Fm.len (by omega)
  obtain ⟨d0, d1, d2⟩ := Fm.facts hb hB hcc (fAt_some (by rw [hE.len]; exact hx))
  obtain ⟨e0, e1, e2⟩ := Fm.facts hb hB hcc (fAt_some (by rw [hE.len]; exact hy))
  have ox := hE.ok _ (fAt_mem (by rw [hE.len]; exact hx))
  have oy := hE.ok _ (fAt_mem (by rw [hE.len]; exact hy))
  obtain ⟨r, hr⟩ : ∃ r, r = cmpZ l x y := ⟨_, rfl⟩
  rw [← hr]
  unfold cmpZ at hr
  generalize fAt l x = fx at *
  generalize fAt l y = fy at *
  obtain ⟨xn, xd, xw⟩ := fx
  obtain ⟨yn, yd, yw⟩ := fy
  obtain ⟨⟨o1, o2, o3⟩, o4, o5⟩ := ox
  obtain ⟨⟨p1, p2, p3⟩, p4, p5⟩ := oy
  simp only at hr d0 d1 d2 e0 e1 e2 o1 o2 o3 o4 o5 p1 p2 p3 p4 p5
  have j0 : (0 : Int) ≤ (x : Int) := by omega
  have j1 : (x : Int) < (n : Int) := by omega
  have j2 : (0 : Int) ≤ (y : Int) := by omega
  have j3 : (y : Int) < (n : Int) := by omega
  clear hcc hE hB hb d1 e1
  by_cases h : xn = yn
  · rw [if_pos h] at hr
    have HR := Lib.hid hr
    subst h
    clear hr
    go_enter Try.func38, Try.ntmps38
    go_wp2
    go_quiet (fail)
    go_wp2
    go_quiet (fail)
    go_wp2
    generalize hxw : World.drewN (World.drewN w _) _ = xw
    have xh : Below w.heap.size w xw := by rw [← hxw]; exact below_drewN (below_drewN (Below.refl _ _) _) _
    clear hxw
    go_ret
    exact Ret.mk (by rw [HR.out]; rfl) xh
  · rw [if_neg h] at hr
    have HR := Lib.hid hr
    have hz : (xn == yn) = false := by simpa using h
    clear hr
    go_enter Try.func38, Try.ntmps38
    go_wp2
    go_quiet (fail)
    go_wp2
    go_quiet (fail)
    go_wp2
    generalize hxw : World.drewN (World.drewN w _) _ = xw
    have xh : Below w.heap.size w xw := by rw [← hxw]; exact below_drewN (below_drewN (Below.refl _ _) _) _
    clear hxw
    go_ret
    exact Ret.mk (by rw [HR.out]; rfl) xh

def ncell (x : Nat) : List Value := [.int .i64 (x : Int)]
theorem ncell_len : ∀ x, (ncell x).length = 1 := fun _ => rfl
theorem ncell_map (l : List Nat) : l.flatMap ncell = l.map (fun x => .int .i64 (x : Int)) := by
  induction l with
  | nil => rfl
  | cons x l ih => rw [List.flatMap_cons, ih]; rfl
theorem ncell_at {l : List Nat} {k x : Nat} (h : l[k]? = some x) : (l.flatMap ncell)[k]? = some (.int .i64 (x : Int)) := by
  rw [ncell_map, List.getElem?_map, h]; rfl
theorem ncell_set (l : List Nat) (k x : Nat) : (l.flatMap ncell).set k (.int .i64 (x : Int)) = (l.set k x).flatMap ncell := by
  rw [ncell_map, ncell_map, List.map_set]
/-- the row that is sorted -/
def sR (A : Option Addr) (N c : Nat) (d : List Nat) : It := .row 3 1 (.slice A N c) N (d.flatMap ncell)

set_option maxRecDepth 100000 in
set_option maxHeartbeats 3200000 in
theorem swr_any (A : Option Addr) (N c a b n : Nat) (d t : List Nat) (J : List It) (F : Value) (w0 w : World) (hs : Sep w0 w (sR A N c d :: J)) (hl : d.length = N) (hN : N ≤ 4096) (hw : Stb.Swp a b n d t) :
    Calls Try.prog 90 #[.slice A N c, .int .i64 (a : Int), .int .i64 (b : Int), .int .i64 (n : Int), F] w (fun e w' => e = .returned (.tuple #[]) ∧ Sep w0 w' (sR A N c t :: J)) := by
  have HS := Lib.hid hs
  have HW := Lib.hid hw
  have HL := Lib.hid hl
  have h1 := hw.len
  clear hs hw hl
  go_enter Try.func90, Try.ntmps90
  obtain ⟨h2, h3, h4⟩ := h1
  rw [HL.out] at h4 h2
  have HB := Lib.hid h3
  have HB2 := Lib.hid h4
  clear h2 h3 h4
  go_wp2
  go_loopg [10] n (fun g i wr => ∃ (j : Nat) (cur : List Nat), j ≤ n ∧ g = n - j ∧ i = .int .i64 j ∧ Hid (cur.length = N) ∧ Hid (Stb.Swp (a + j) (b + j) (n - j) cur t) ∧ Sep w0 wr (sR A N c cur :: J))
  case atStart => exact ⟨0, d, Nat.zero_le _, rfl, rfl, HL, HW, HS.out⟩
  case round =>
    clear HS HW HL
    obtain ⟨j, cur, hj, rfl, rfl, HL, HW, hs⟩ := hrel
    have HS := Lib.hid hs
    clear hs
    by_cases hlt : j < n
    · obtain ⟨x, y, hx, hy, hne, hw2⟩ := HW.out.step (by omega)
      have hb1 := HB.out
      have hb2 := HB2.out
      obtain ⟨p, hp⟩ : ∃ p, p = a + j := ⟨_, rfl⟩
      obtain ⟨r, hr⟩ : ∃ r, r = b + j := ⟨_, rfl⟩
      rw [← hp] at hx hne hw2
      rw [← hr] at hy hne hw2
      obtain ⟨g, rfl, _, hat⟩ := HS.out.rowAt 0 rfl (by omega)
      have d0 := (hat p).1 _ (ncell_at hx)
      have e0 := (hat r).1 _ (ncell_at hy)
      have u0 := (hat p).2.1
      have u1 := (hat r).2.1
      have K1 := (hat p).2.2 (.int .i64 (y : Int))
      obtain ⟨g', hg', _, hat2⟩ := K1.rowAt 0 rfl (by omega)
      cases hg'
      have K2 := (hat2 r).2.2 (.int .i64 (x : Int))
      rw [ncell_set, ncell_set] at K2
      have K := Lib.hid K2
      have i1 : (p : Int) < (N : Int) := by omega
      have i2 : (r : Int) < (N : Int) := by omega
      have i3 : (a : Int) + (j : Int) = (p : Int) := by omega
      have i4 : (b : Int) + (j : Int) = (r : Int) := by omega
      have i5 : (0 : Int) ≤ (p : Int) := by omega
      have i6 : (0 : Int) ≤ (r : Int) := by omega
      have HL2 : Hid (((cur.set p y).set r x).length = N) := Lib.hid (by simp [HL.out])
      have HW2 : Hid (Stb.Swp (a + (j + 1)) (b + (j + 1)) (n - (j + 1)) ((cur.set p y).set r x) t) := Lib.hid (by
        have e1 : a + (j + 1) = p + 1 := by omega
        have e2 : b + (j + 1) = r + 1 := by omega
        rw [e1, e2, show n - (j + 1) = n - j - 1 by omega]
        exact hw2)
      clear hat hat2 K1 K2 hx hy hw2 HW HL hb1 hb2 hp hr HS
      go_upto_region 3 with (fail)
      go_region
      all_goals
        go_wp2
        go_roundg (n - (j + 1))
        case measure => omega
        case rel => exact ⟨j + 1, (cur.set p y).set r x, by omega, rfl, by go_num, HL2, HW2, K.out.drew⟩
    · obtain rfl : j = n := by omega
      have HE : Hid (cur = t) := Lib.hid (by have h := HW.out; rw [Nat.sub_self] at h; exact h.done)
      clear HW
      go_wp2
      refine bodyPost_end (v := .tuple #[]) (by simp [results, Try.results90]) rfl ?_
      exact ⟨rfl, by rw [← HE.out]; exact HS.out⟩

set_option maxRecDepth 100000 in
set_option maxHeartbeats 3200000 in
theorem rot_any (A : Option Addr) (N c m i0 j0 : Nat) (d t : List Nat) (J : List It) (F : Value) (w0 w : World) (hs : Sep w0 w (sR A N c d :: J)) (hl : d.length = N) (hN : N ≤ 4096) (hw : Stb.Rot m i0 j0 d t) (hi : 0 < i0) (hj : 0 < j0) :
    Calls Try.prog 79 #[.slice A N c, .int .i64 ((m - i0 : Nat) : Int), .int .i64 (m : Int), .int .i64 ((m + j0 : Nat) : Int), F] w (fun e w' => e = .returned (.tuple #[]) ∧ Sep w0 w' (sR A N c t :: J)) := by
  have HS := Lib.hid hs
  have HW := Lib.hid hw
  have HL := Lib.hid hl
  have hb := hw.bounds
  rw [hl] at hb
  obtain ⟨hb1, hb2, hb3⟩ := hb
  clear hs hw hl hb3
  obtain ⟨a, ha⟩ : ∃ a, a = m - i0 := ⟨_, rfl⟩
  obtain ⟨b, hb⟩ : ∃ b, b = m + j0 := ⟨_, rfl⟩
  rw [← ha, ← hb]
  have k1 : (m : Int) - (a : Int) = (i0 : Int) := by omega
  have k2 : (b : Int) - (m : Int) = (j0 : Int) := by omega
  have HA := Lib.hid ha
  have HB := Lib.hid hb
  clear ha hb
  go_enter Try.func79, Try.ntmps79
  go_wp2
  clear k1 k2
  go_loopg [10, 11] (i0 + j0) (fun g vi vj wr => ∃ (i j : Nat) (cur : List Nat), g = i + j ∧ 0 < i ∧ 0 < j ∧ vi = .int .i64 i ∧ vj = .int .i64 j ∧ Hid (cur.length = N) ∧ Hid (Stb.Rot m i j cur t) ∧ Sep w0 wr (sR A N c cur :: J))
  case atStart => exact ⟨i0, j0, d, rfl, hi, hj, rfl, rfl, HL, HW, HS.out⟩
  case round =>
    clear HS HW HL HA HB hi hj hb1 hb2
    obtain ⟨i, j, cur, rfl, hi, hj, rfl, rfl, HL, HW, hs⟩ := hrel
    have HS := Lib.hid hs
    clear hs
    have hb := HW.out.bounds
    rw [HL.out] at hb
    obtain ⟨hb1, hb2, hb3⟩ := hb
    clear hb3
    obtain ⟨p, hp⟩ : ∃ p, p = m - i := ⟨_, rfl⟩
    have k1 : (m : Int) - (i : Int) = (p : Int) := by omega
    have b1 : p ≤ 4096 := by omega
    have b2 : m ≤ 4096 := by omega
    have b3 : i ≤ 4096 := by omega
    have b4 : j ≤ 4096 := by omega
    rcases Nat.lt_trichotomy i j with h | h | h
    · obtain ⟨l', hw1, hw2⟩ := HW.out.lt h
      obtain ⟨x, hx⟩ : ∃ x, x = m + j := ⟨_, rfl⟩
      obtain ⟨y, hy⟩ : ∃ y, y = m + j - i := ⟨_, rfl⟩
      obtain ⟨z, hz⟩ : ∃ z, z = j - i := ⟨_, rfl⟩
      have k2 : (m : Int) + (j : Int) = (x : Int) := by omega
      have k3 : (x : Int) - (i : Int) = (y : Int) := by omega
      have k4 : (j : Int) - (i : Int) = (z : Int) := by omega
      have k5 : ((i : Int) == (j : Int)) = false := by simp; omega
      have k6 : ¬ (j : Int) < (i : Int) := by omega
      have b5 : x ≤ 4096 := by omega
      have b6 : y ≤ 4096 := by omega
      have b7 : z ≤ 4096 := by omega
      rw [← hp, ← hy] at hw1
      rw [← hz] at hw2
      have HL1 : Hid (l'.length = N) := Lib.hid (by rw [hw1.len.1]; exact HL.out)
      have cC := Lib.hid (swr_any A N c p y i cur l' J F w0 wr HS.out HL.out hN hw1)
      have HW1 := Lib.hid hw2
      have hz0 : 0 < z := by omega
      have hzm : i + z < i + j := by omega
      clear hw1 hw2 HW HL HS hp hx hy hz hb1 hb2 h
      go_wp2_with fail
      refine cC.out.mono ?_; rintro en w1 ⟨rfl, hs1⟩
      have HS1 := Lib.hid hs1
      clear hs1 cC
      go_wp2
      go_roundg (i + z)
      case measure => exact hzm
      case rel => exact ⟨i, z, l', rfl, hi, hz0, rfl, rfl, HL1, HW1, HS1.out⟩
    · subst h
      have hw1 := HW.out.eq
      have k5 : ((i : Int) == (i : Int)) = true := by simp
      rw [← hp] at hw1
      have cC := Lib.hid (swr_any A N c p m i cur t J F w0 wr HS.out HL.out hN hw1)
      clear hw1 HW HL HS hp hb1 hb2
      go_wp2_with fail
      refine cC.out.mono ?_; rintro en w1 ⟨rfl, hs1⟩
      have HS1 := Lib.hid hs1
      clear hs1 cC
      go_wp2
      refine bodyPost_end (v := .tuple #[]) (by simp [results, Try.results79]) rfl ?_
      exact ⟨rfl, HS1.out⟩
    · obtain ⟨l', hw1, hw2⟩ := HW.out.gt h
      obtain ⟨z, hz⟩ : ∃ z, z = i - j := ⟨_, rfl⟩
      have k4 : (i : Int) - (j : Int) = (z : Int) := by omega
      have k5 : ((i : Int) == (j : Int)) = false := by simp; omega
      have k6 : (j : Int) < (i : Int) := by omega
      have b7 : z ≤ 4096 := by omega
      rw [← hp] at hw1
      rw [← hz] at hw2
      have HL1 : Hid (l'.length = N) := Lib.hid (by rw [hw1.len.1]; exact HL.out)
      have cC := Lib.hid (swr_any A N c p m j cur l' J F w0 wr HS.out HL.out hN hw1)
      have HW1 := Lib.hid hw2
      have hz0 : 0 < z := by omega
      have hzm : z + j < i + j := by omega
      clear hw1 hw2 HW HL HS hp hz hb1 hb2 h
      go_wp2_with fail
      refine cC.out.mono ?_; rintro en w1 ⟨rfl, hs1⟩
      have HS1 := Lib.hid hs1
      clear hs1 cC
      go_wp2
      go_roundg (z + j)
      case measure => exact hzm
      case rel => exact ⟨z, j, l', rfl, hz0, hj, rfl, rfl, HL1, HW1, HS1.out⟩
end Vic
end Go.Proofs.Ytfljbiobiobamab
