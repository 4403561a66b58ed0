/-
  Walks of the reference's CMay, CBytes, CTorn.
-/
import Derived.Test.YtakmfjnfkjdbfabCellW
import Derived.Test.YtakmfjnfkjdbfabTail
namespace Go.Proofs.Ytakmfjnfkjdbfab
open Go.RowKit
namespace Cell

theorem bl_one (f : Nat → Bool) (m : Nat) : ∀ u ∈ bl f m, u.oneCell' = true := by
  intro u hu
  simp [bl] at hu
  obtain ⟨_, _, rfl⟩ := hu
  rfl
theorem own_bl {w wr : World} {base n k : Nat} {v : Value} {f : Nat → Bool} (h : w.ownsRow base 4 1 v n (bl f n)) (hk : k < n) (hB : Below w.heap.size w wr) : ∃ g c, v = .slice (some ⟨g, 0, none⟩) n c ∧ wr.cell? ⟨g, k, none⟩ = some (.bool (f k)) ∧ base ≤ g ∧ g < w.heap.size := by
  have h' := own_below h hB
  rcases h.2 with ⟨_, h0⟩ | ⟨g, cap, cur, rfl, hg, hh, _⟩
  · omega
  · refine ⟨g, cap, rfl, ?_, hg, ?_⟩
    · rw [World.ownsRow.cellAt h' k (by omega), bl_at hk]
    · rcases Nat.lt_or_ge g w.heap.size with h3 | h3
      · exact h3
      · rw [Array.getElem?_eq_none h3] at hh; cases hh

def CmTo (o t : List Nat) (k : Nat) : Prop := ∀ j, j < k → (bit o j || !bit t j) = true
theorem cm_yes {o t : List Nat} (h : CmTo o t (8 * o.length)) : ((List.range (8 * o.length)).all fun k => bit o k || !bit t k) = true := by
  rw [List.all_eq_true]
  exact fun j hj => h j (List.mem_range.1 hj)
theorem cm_no {o t : List Nat} {k : Nat} (hk : k < 8 * o.length) (h : (bit o k || !bit t k) = false) : ((List.range (8 * o.length)).all fun k => bit o k || !bit t k) = false := by
  rw [List.all_eq_false]
  exact ⟨k, List.mem_range.2 hk, by rw [h]; simp⟩

set_option maxRecDepth 100000 in
set_option maxHeartbeats 800000 in
theorem cmay_any (A A' : Option Addr) (n c n' c' : Nat) (o t : List Nat) (w : World) (hr : Rd w w.heap.size 1 A n (o.flatMap bcell)) (hl : o.length = n) (hn : n ≤ 1048576) (hb : ∀ x ∈ o, x < 256)
    (hr' : Rd w w.heap.size 1 A' n' (t.flatMap bcell)) (hl' : t.length = n') (hn' : n' ≤ 1048576) (hb' : ∀ x ∈ t, x < 256) :
    Calls Try.prog 20 #[.slice A n c, .slice A' n' c'] w (Ret w (.bool (mayL o t))) := by
  have c1 := Lib.hid (cbits_any A n c o w hr hl hn hb)
  have c2 := Lib.hid (fun w' (hbw : Below w.heap.size w w') => cbits_any A' n' c' t w' ((hr'.below hbw).more hbw.size) hl' hn' hb')
  by_cases hne : n = n'
  · have hml : Hid (mayL o t = (List.range (8 * o.length)).all fun k => bit o k || !bit t k) := Lib.hid (mayL_bits hb hb' (by omega))
    have HL := Lib.hid hl
    clear hr hl hb hr' hl' hb'
    subst hne
    go_enter Try.func20, Try.ntmps20
    go_wp2_with fail
    refine c1.out.mono ?_; rintro e w1 ⟨v1, rfl, ho1, hb1⟩
    go_wp2_with fail
    refine (c2.out _ hb1).mono ?_; rintro e w2 ⟨v2, rfl, ho2, hb2⟩
    have hB2 := hb1.trans (hb2.mono hb1.size)
    have ho1' := own_below ho1 hb2
    obtain ⟨A1, k1, hv1⟩ := own_slice ho1'
    obtain ⟨A2, k2, hv2⟩ := own_slice ho2
    rw [hv1] at ho1' ⊢
    rw [hv2] at ho2 ⊢
    have HO1 := Lib.hid ho1'
    have HO2 := Lib.hid ho2
    clear ho1 ho1' ho2 hv1 hv2 c1 c2 hb1 hb2
    have heq : ((8 * (n : Int)) == (8 * (n : Int))) = true := by simp
    go_wp2_with fail
    go_loopg [7, 8] (8 * n + 1) (fun g v i wr => ∃ (k : Nat) (ok : Bool), k ≤ 8 * n ∧ g = (if ok = true then 8 * n + 1 - k else 0) ∧ i = .int .i64 k ∧ v = .bool ok ∧ Hid (ok = true → CmTo o t k) ∧ Hid (ok = false → mayL o t = false) ∧ Below w2.heap.size w2 wr)
    case atStart => exact ⟨0, true, Nat.zero_le _, by simp, rfl, rfl, Lib.hid (fun _ j hj => absurd hj (by omega)), Lib.hid (by simp), Below.refl _ _⟩
    case round =>
      obtain ⟨k, ok, hk, rfl, rfl, rfl, HT, HF, hBB⟩ := hrel
      have hB := hB2.trans (hBB.mono hB2.size)
      cases ok with
      | false =>
        go_wp2
        go_ret
        exact Ret.mk (bool_eq (HF.out (by simp)).symm) hB
      | true =>
        by_cases hlt : k < 8 * n
        · obtain ⟨g1, e1, hv1, d1, _⟩ := own_bl HO1.out hlt hBB
          obtain ⟨g2, e2, hv2, d2, _⟩ := own_bl HO2.out hlt hBB
          injection hv1 with hv1 _ hk1
          injection hv2 with hv2 _ hk2
          subst hv1 hv2 hk1 hk2
          have hlt' : k < 8 * o.length := by rw [HL.out]; exact hlt
          cases hbo : bit o k with
          | true =>
            rw [hbo] at d1
            have HN : Hid (CmTo o t (k + 1)) := Lib.hid (fun j hj => by
              by_cases e : j = k
              · rw [e, hbo]; rfl
              · exact HT.out (by simp) j (by omega))
            clear hbo
            go_wp2
            go_roundg (8 * n + 1 - (k + 1))
            case measure => first | omega | (simp; omega)
            case rel => exact ⟨k + 1, true, by omega, by simp, by go_num, rfl, Lib.hid (fun _ => HN.out), Lib.hid (by simp), hBB⟩
          | false =>
            rw [hbo] at d1
            cases hbt : bit t k with
            | false =>
              rw [hbt] at d2
              have HN : Hid (CmTo o t (k + 1)) := Lib.hid (fun j hj => by
                by_cases e : j = k
                · rw [e, hbo, hbt]; rfl
                · exact HT.out (by simp) j (by omega))
              clear hbo hbt
              go_wp2
              go_roundg (8 * n + 1 - (k + 1))
              case measure => first | omega | (simp; omega)
              case rel => exact ⟨k + 1, true, by omega, by simp, by go_num, rfl, Lib.hid (fun _ => HN.out), Lib.hid (by simp), hBB⟩
            | true =>
              rw [hbt] at d2
              have HN : Hid (mayL o t = false) := Lib.hid (by rw [hml.out]; exact cm_no hlt' (by rw [hbo, hbt]; rfl))
              clear hbo hbt
              go_wp2
              go_roundg 0
              case measure => first | omega | (simp; omega)
              case rel => exact ⟨k + 1, false, by omega, by simp, by go_num, rfl, Lib.hid (by simp), Lib.hid (fun _ => HN.out), hBB⟩
        · have HN : Hid (mayL o t = true) := Lib.hid (by rw [hml.out]; exact cm_yes (by rw [HL.out, show 8 * n = k by omega]; exact HT.out (by simp)))
          go_wp2
          go_ret
          exact Ret.mk (bool_eq HN.out.symm) hB
  · have HN := Lib.hid (may_len (o := o) (n := t) (by rw [hl, hl']; exact hne))
    clear hr hl hb hr' hl' hb'
    have hnn : ((8 * (n : Int)) == (8 * (n' : Int))) = false := by simp; omega
    clear hne
    go_enter Try.func20, Try.ntmps20
    go_wp2_with fail
    refine c1.out.mono ?_; rintro e w1 ⟨v1, rfl, ho1, hb1⟩
    go_wp2_with fail
    refine (c2.out _ hb1).mono ?_; rintro e w2 ⟨v2, rfl, ho2, hb2⟩
    have hB2 := hb1.trans (hb2.mono hb1.size)
    obtain ⟨A1, k1, hv1⟩ := own_slice ho1
    obtain ⟨A2, k2, hv2⟩ := own_slice ho2
    rw [hv1, hv2]
    clear ho1 ho2 hv1 hv2 c1 c2 hb1 hb2
    go_wp2_with fail
    refine wp_loop_rounds 1 ?_
    rw [rounds_succ]
    go_wp2
    go_ret
    exact Ret.mk (bool_eq HN.out.symm) hB2
end Cell
end Go.Proofs.Ytakmfjnfkjdbfab
