/-
  Walk of the reference's HAgain. Conditions: none.
-/
import Derived.Test.YtcndddjnlnigeaaRmpW
namespace Go.Proofs.Ytcndddjnlnigeaa
open Go.RowKit
set_option linter.unusedVariables false
namespace Rmp

def lastL (l : List Int) (i : Nat) : Int := lastD (i : Int) l l.length
theorem agE_good' {l : List Int} (h : ∀ x ∈ l, ¬ bad x) : agE l = (mk16 (lastL l) 0 16, 0) := agE_good h
theorem lastD_step {n : Int} {l : List Int} {k : Nat} {x : Int} (hx : l[k]? = some x) (hne : x ≠ n) : lastD n l (k + 1) = lastD n l k := by
  rw [lastD, hx, if_neg (by simpa using hne)]
theorem lastD_hit {n : Int} {l : List Int} {k : Nat} (hx : l[k]? = some n) : lastD n l (k + 1) = (k : Int) := by rw [lastD, if_pos hx]

set_option maxRecDepth 100000 in
set_option maxHeartbeats 3200000 in
theorem hagain_any (A : Option Addr) (n c : Nat) (l : List Int) (w : World) (hr : Rd w w.heap.size 1 A n (l.flatMap icell)) (hl : l.length = n) (hn : n ≤ 9223372036854775807) :
    Calls Try.prog 15 #[.slice A n c] w (Ret w (rowE (agE l))) := by
  have HR := Lib.hid hr
  have HL := Lib.hid hl
  have F0 : Hid (Blk ((w.alloc (.cells Z16 34)).alloc (.cells Z16 34)) w.heap.size 34 (zero16.flatMap icell)) := Lib.hid ((Blk.new w _ _).alloc _)
  have F1 : Hid (Blk ((w.alloc (.cells Z16 34)).alloc (.cells Z16 34)) (w.heap.size + 1) 34 (zero16.flatMap icell)) := Lib.hid (by
    have := Blk.new (w.alloc (.cells Z16 34)) 34 (zero16.flatMap icell)
    rwa [show (w.alloc (.cells Z16 34)).heap.size = w.heap.size + 1 by simp] at this)
  have hB0 : Below w.heap.size w ((w.alloc (.cells Z16 34)).alloc (.cells Z16 34)) := ((Below.refl _ _).alloc (Nat.le_refl _) _).alloc (by simp) _
  clear hr hl
  go_enter Try.func15, Try.ntmps15
  go_wp2
  go_loopg [10] n (fun g i wr => ∃ k : Nat, k ≤ n ∧ g = n - k ∧ i = .int .i64 k ∧ Hid (∀ m x, m < k → l[m]? = some x → ¬ bad x) ∧ Blk wr w.heap.size 34 (zero16.flatMap icell) ∧ Blk wr (w.heap.size + 1) 34 (zero16.flatMap icell) ∧ Below w.heap.size w wr)
  case atStart => exact ⟨0, Nat.zero_le _, rfl, rfl, Lib.hid (fun m x h => by omega), F0.out, F1.out, hB0⟩
  case round =>
    obtain ⟨k, hk, rfl, rfl, HG, hz, hp, hB⟩ := hrel
    have HZ := Lib.hid hz
    have HP := Lib.hid hp
    clear hz hp F0 F1 hB0
    by_cases hlt : k < n
    · obtain ⟨b, off, rfl, hb, hc⟩ := HR.out.at_ icell_len (by omega)
      obtain ⟨x, hx⟩ : ∃ x, l[k]? = some x := ⟨_, List.getElem?_eq_getElem (by rw [HL.out]; exact hlt)⟩
      have q0 : wr.cell? ⟨b, off + k, none⟩ = some (.int .i64 x) := (hB.cell hb).trans (by have := hc k 0 x _ hx rfl; simpa using this)
      by_cases hbad : bad x
      · have HE : Hid (agE l = (zero16, 1)) := Lib.hid (agE_bad ⟨x, List.mem_of_getElem? hx, hbad⟩)
        have hor : x < 0 ∨ (¬ x < 0 ∧ 15 < x) := by unfold bad at hbad; omega
        clear hbad hc hx
        rcases hor with h | ⟨h, h'⟩
        all_goals
          go_wp2_with (refine wpList_store_row rfl 34 (.tmp 2) (.tmp 20) rfl w.heap.size Z16 rfl rfl 34 Z16 HZ.out (size16' rfl) rfl (icell_one zero16) ?_)
          have hld := (HZ.out.row (zero16.flatMap icell)).load Try.underlying34 (size16 rfl)
          have hB3 := below_row hB (Nat.le_refl _) (zero16.flatMap icell).toArray
          refine bodyPost_ret (v := rowE (zero16, 1)) ?_ rfl ?_
          · simp [results, Try.results15, asAddr, rowE, rowV]
            erw [hld]
            rfl
          · exact Ret.mk (rowE_eq HE.out.symm) hB3
      · have HN : Hid (∀ m x, m < k + 1 → l[m]? = some x → ¬ bad x) := Lib.hid (fun m y hm hy => by
          by_cases hmk : m = k
          · subst hmk; rw [hx] at hy; cases hy; exact hbad
          · exact HG.out m y (by omega) hy)
        have h1 : ¬ x < 0 := by unfold bad at hbad; omega
        have h2 : ¬ 15 < x := by unfold bad at hbad; omega
        clear hbad hc hx
        go_wp2
        go_roundg (n - (k + 1))
        case measure => omega
        case rel => exact ⟨k + 1, by omega, rfl, by go_num, HN, HZ.out, HP.out, hB⟩
    · have hgood : ∀ x ∈ l, ¬ bad x := fun x hx => by
        obtain ⟨m, hm, rfl⟩ := List.getElem_of_mem hx
        exact HG.out m _ (by have := HL.out; omega) (List.getElem?_eq_getElem hm)
      have HE : Hid (agE l = (mk16 (lastL l) 0 16, 0)) := Lib.hid (agE_good' hgood)
      have HP0 : Hid (Blk wr (w.heap.size + 1) 34 ((mk16 (lastL l) 0 0).flatMap icell)) := Lib.hid (by rw [mk16_zero]; exact HP.out)
      clear hgood HG HP
      obtain ⟨wo, rfl⟩ : ∃ wo : World, wo = wr := ⟨_, rfl⟩
      go_wp2
      go_loopg [22] 16 (fun g i wr => ∃ p : Nat, p ≤ 16 ∧ g = 16 - p ∧ i = .int .i64 p ∧ Blk wr w.heap.size 34 (zero16.flatMap icell) ∧ Blk wr (w.heap.size + 1) 34 ((mk16 (lastL l) 0 p).flatMap icell) ∧ Below w.heap.size w wr)
      case atStart => exact ⟨0, by omega, rfl, rfl, HZ.out, HP0.out, hB⟩
      case round =>
        obtain ⟨p, hp16, rfl, rfl, hz2, hp2, hB2⟩ := hrel
        have HZ2 := Lib.hid hz2
        have HP2 := Lib.hid hp2
        clear hz2 hp2 HZ HP0 hB
        by_cases hlp : p < 16
        · have hcat := mk16_at (f := lastL l) (z := 0) (k := p) hlp
          have u0 := HP2.out.froz (k := p)
          have u1 := HP2.out.cell (hcell hcat)
          have i0 : (0 : Int) ≤ (p : Int) := by omega
          have i1 : (p : Int) < 16 := by omega
          have hS := Lib.hid (set_blk (k := p) HP2.out ((n : Int) - 1))
          have hS' := Lib.hid (HZ2.out.other (g' := w.heap.size + 1) (k := p) (by omega) (.int .i64 ((n : Int) - 1)))
          have hB3 := hB2.setCell (p := ⟨w.heap.size + 1, p, none⟩) (by simp) (.int .i64 ((n : Int) - 1))
          clear hcat
          obtain ⟨wo, rfl⟩ : ∃ wo : World, wo = wr := ⟨_, rfl⟩
          go_wp2
          go_loopg [] n (fun g wi => ∃ z : Int, g ≤ n ∧ z = (g : Int) - 1 ∧ Hid (lastL l p = lastD (p : Int) l g) ∧ Blk wi w.heap.size 34 (zero16.flatMap icell) ∧ Blk wi (w.heap.size + 1) 34 (((mk16 (lastL l) 0 p).set p z).flatMap icell) ∧ Below w.heap.size w wi)
          case atStart => exact ⟨_, Nat.le_refl _, rfl, Lib.hid (by rw [lastL, HL.out]), hS'.out, hS.out, hB3⟩
          case round =>
            obtain ⟨z, hgn, hz, HD, hz4, hp4, hB4⟩ := hrel
            have HZ4 := Lib.hid hz4
            have HP4 := Lib.hid hp4
            clear hz4 hp4 hS hS' hB3 u0 u1
            have hat : ((mk16 (lastL l) 0 p).set p z)[p]? = some z := by rw [List.getElem?_set_self (by rw [mk16_len]; exact hlp)]
            have v0 := HP4.out.froz (k := p)
            have v1 := HP4.out.cell (hcell hat)
            clear hat
            rcases Nat.eq_zero_or_pos gk with h0 | hpos
            · subst h0
              obtain rfl : z = -1 := by omega
              have hS5 : Hid (Blk wr (w.heap.size + 1) 34 ((mk16 (lastL l) 0 (p + 1)).flatMap icell)) := Lib.hid (by
                have := HP4.out
                rw [show (-1 : Int) = lastL l p by rw [HD.out]; rfl, mk16_set hlp] at this
                exact this)
              clear hz
              go_wp2
              go_roundg (16 - (p + 1))
              case measure => omega
              case rel => exact ⟨p + 1, by omega, rfl, by go_num, HZ4.out, hS5.out, hB4⟩
            · obtain ⟨r, hr⟩ : ∃ r, gk = r + 1 := ⟨gk - 1, by omega⟩
              subst hr
              obtain rfl : z = (r : Int) := by omega
              clear hz hpos
              obtain ⟨b, off, rfl, hb, hc⟩ := HR.out.at_ icell_len (by omega)
              obtain ⟨x, hx⟩ : ∃ x, l[r]? = some x := ⟨_, List.getElem?_eq_getElem (by rw [HL.out]; omega)⟩
              have q0 : wr.cell? ⟨b, off + r, none⟩ = some (.int .i64 x) := (hB4.cell hb).trans (by have := hc r 0 x _ hx rfl; simpa using this)
              have j0 : (0 : Int) ≤ (r : Int) := by omega
              have j1 : (r : Int) < (n : Int) := by omega
              by_cases hxp : x = (p : Int)
              · subst hxp
                have hS5 : Hid (Blk wr (w.heap.size + 1) 34 ((mk16 (lastL l) 0 (p + 1)).flatMap icell)) := Lib.hid (by
                  have := HP4.out
                  rw [show (r : Int) = lastL l p by rw [HD.out, lastD_hit hx], mk16_set hlp] at this
                  exact this)
                have ht : ((p : Int) != (p : Int)) = false := by simp
                clear hc hx
                go_wp2
                go_roundg (16 - (p + 1))
                case measure => omega
                case rel => exact ⟨p + 1, by omega, rfl, by go_num, HZ4.out, hS5.out, hB4⟩
              · have HD' : Hid (lastL l p = lastD (p : Int) l r) := Lib.hid (by rw [HD.out, lastD_step hx hxp])
                have ht : (x != (p : Int)) = true := by simpa using hxp
                have hS6 : Hid (Blk (wr.setCell ⟨w.heap.size + 1, p, none⟩ (.int .i64 ((r : Int) - 1))) (w.heap.size + 1) 34 (((mk16 (lastL l) 0 p).set p ((r : Int) - 1)).flatMap icell)) := Lib.hid (by
                  have := set_blk (k := p) HP4.out ((r : Int) - 1)
                  rwa [List.set_set] at this)
                have hS6' := Lib.hid (HZ4.out.other (g' := w.heap.size + 1) (k := p) (by omega) (.int .i64 ((r : Int) - 1)))
                have hB6 := hB4.setCell (p := ⟨w.heap.size + 1, p, none⟩) (by simp) (.int .i64 ((r : Int) - 1))
                clear hc hx hxp
                go_wp2
                go_roundg r
                case measure => omega
                case rel => exact ⟨(r : Int) - 1, by omega, rfl, HD', hS6'.out, hS6.out, hB6⟩
        · obtain rfl : p = 16 := by omega
          have hln := mk16_len (lastL l) 0 16
          clear hlp hp16
          generalize mk16 (lastL l) 0 16 = out at HE HP2 hln
          go_wp2_with (first
            | refine wpList_load_row rfl 34 (.tmp 4) rfl (w.heap.size + 1) rfl 34 (out.flatMap icell).toArray (0, 0) (.array 16 3) HP2.out Try.underlying34 rfl (size16' hln) ?_
            | refine wpList_store_row rfl 34 (.tmp 2) (.tmp 50) rfl w.heap.size (out.flatMap icell).toArray rfl rfl 34 Z16 HZ2.out (size16' hln) (same16 rfl hln) (icell_one out) ?_)
          have hld := (HZ2.out.row (out.flatMap icell)).load Try.underlying34 (size16 hln)
          have hB3 := below_row hB2 (Nat.le_refl _) (out.flatMap icell).toArray
          refine bodyPost_ret (v := rowE (out, 0)) ?_ rfl ?_
          · simp [results, Try.results15, asAddr, rowE, rowV, hld]
          · exact Ret.mk (rowE_eq HE.out.symm) hB3
end Rmp
end Go.Proofs.Ytcndddjnlnigeaa
