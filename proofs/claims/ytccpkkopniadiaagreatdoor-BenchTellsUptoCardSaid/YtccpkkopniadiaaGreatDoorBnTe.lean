/-
  Walk of the law BenchTells. Conditions: none beyond each theorem's own premises.
-/
import Derived.Test.YtccpkkopniadiaaGreatDoorBnTy
import Derived.Test.YtccpkkopniadiaaGreatDoorEq
namespace Go.Proofs.YtccpkkopniadiaaGreatDoor
open Go.RowKit Go.Shelf Go.Sort
set_option linter.unusedVariables false
namespace So
open _root_.Go.Proofs.YtccpkkopniadiaaGreatDoor.Bn _root_.Go.Proofs.YtccpkkopniadiaaGreatDoor.Dr

set_option maxHeartbeats 1600000 in
theorem equal_lines (A A' : Option Addr) (n c c' : Nat) (l : List By) (w : World) (hr : Rd w w.heap.size 1 A n (l.flatMap tc)) (hr' : Rd w w.heap.size 1 A' n (l.flatMap tc)) (hl : l.length = n) (hn : n ≤ 9223372036854775807) :
    Calls Tryz.prog 8 #[.slice A n c, .slice A' n c'] w (Ret w (.bool true)) := by
  have HR := Lib.hid hr
  have HR' := Lib.hid hr'
  have HL := Lib.hid hl
  clear hr hr' hl
  go_enter Tryz.func8, Tryz.ntmps8
  go_wp2
  go_loopg [13] n (fun g i wr => ∃ k : Nat, k ≤ n ∧ g = n - k ∧ i = .int .i64 k ∧ Below w.heap.size w wr)
  case atStart => exact ⟨0, Nat.zero_le _, rfl, rfl, Below.refl _ _⟩
  case round =>
    obtain ⟨k, hk, rfl, rfl, hB⟩ := hrel
    by_cases hlt : k < n
    · obtain ⟨b, off, rfl, hb, hc⟩ := HR.out.at_ tc_len (by omega)
      obtain ⟨b', off', rfl, hb', hc'⟩ := HR'.out.at_ tc_len (by omega)
      obtain ⟨y, hy⟩ : ∃ y, l[k]? = some y := ⟨_, List.getElem?_eq_getElem (by rw [HL.out]; exact hlt)⟩
      have d1 : wr.cell? ⟨b, off + k, none⟩ = some (.string (bs y)) := (hB.cell (p := ⟨b, off + k, none⟩) hb).trans (by simpa using hc k 0 y _ hy rfl)
      have d2 : wr.cell? ⟨b', off' + k, none⟩ = some (.string (bs y)) := (hB.cell (p := ⟨b', off' + k, none⟩) hb').trans (by simpa using hc' k 0 y _ hy rfl)
      have E : ((bs y).toList == (bs y).toList) = true := by simp
      have i0 : (0 : Int) ≤ (k : Int) := by omega
      have i1 : (k : Int) < (n : Int) := by omega
      clear hc hc' hy
      go_wp2
      go_quiet (fail)
      go_wp2
      generalize hxw : World.drewN wr _ = xw
      have xh : Below wr.heap.size wr xw := by rw [← hxw]; exact below_drewN (Below.refl _ _) _
      clear hxw
      go_roundg (n - (k + 1))
      case measure => omega
      case rel => exact ⟨k + 1, by omega, rfl, by go_num, hB.trans (xh.mono hB.size)⟩
    · go_wp2
      go_ret
      exact Ret.mk rfl hB

set_option maxRecDepth 100000 in
set_option maxHeartbeats 1600000 in
theorem benchTells_walk (x : By) (S : ByteArray) (hS : bs x = S) (hl : x.length ≤ 67108865) (w : World) (hg : Gl w) :
    Calls Tryz.prog 3 #[.string S] w (Ret w (.bool true)) := by
  obtain ⟨r, kk, hpr⟩ := pr_ex x.length x [] (Nat.le_refl _)
  cases r with
  | none =>
    have cP := Lib.hid (tell_bad x S hS hl kk hpr w hg)
    have cY := Lib.hid (fun W (hW : Below w.heap.size w W) => ytell_bad x S hS hl kk hpr W (hg.later hW))
    clear hpr hS hl hg
    go_enter Tryz.func3, Tryz.ntmps3
    go_wp2_with fail
    refine cP.out.mono ?_; rintro en w1 ⟨rfl, hb1⟩
    have B1 := Lib.hid hb1
    clear hb1 cP
    go_wp2_with fail
    refine (cY.out w1 B1.out).mono ?_; rintro en w2 ⟨rfl, hb2⟩
    have B2 := Lib.hid (B1.out.trans (hb2.mono B1.out.size))
    clear hb2 cY B1
    have cE := Lib.hid (equal_lines none none 0 0 0 [] w2 Rd.nil_ Rd.nil_ rfl (by omega))
    go_wp2_with fail
    refine cE.out.mono ?_; rintro en w5 ⟨rfl, hb5⟩
    have HF := Lib.hid (B2.out.trans (hb5.mono B2.out.size))
    clear hb5 cE B2
    go_wp2
    go_ret
    exact Ret.mk rfl HF.out
  | some ops =>
    obtain ⟨an, D1, C1, hp⟩ := plays_ex ops mno [] 0 cnt_no
    have cP := Lib.hid (tell_ok x S hS hl ops kk hpr an D1 C1 hp w hg)
    have cY := Lib.hid (fun W (hW : Below w.heap.size w W) => ytell_ok x S hS hl ops kk hpr an D1 C1 hp W (hg.later hW))
    clear hpr hS hl hg hp
    go_enter Tryz.func3, Tryz.ntmps3
    go_wp2_with fail
    refine cP.out.mono ?_; rintro en w1 ⟨ks, A, p, c, HK, HP, hpc, hpb, rfl, hs1⟩
    have H1 := Lib.hid hs1
    clear hs1 cP
    go_wp2_with fail
    refine (cY.out w1 H1.out.below).mono ?_; rintro en w2 ⟨ks', A', p', c', HK', HP', hpc', hpb', rfl, hs2⟩
    obtain rfl : ks' = ks := kept_one HK'.out HK.out
    obtain rfl : p' = p := by rw [← HP'.out, HP.out]
    have H2 := Lib.hid (H1.out.join hs2)
    clear hs2 cY H1 HK HK' HP'
    have cE := Lib.hid (equal_lines A A' p' c c' (tells ops an ks') w2 (H2.out.rd 0 rfl) (H2.out.rd 1 rfl) HP.out (by omega))
    go_wp2_with fail
    refine cE.out.mono ?_; rintro en w5 ⟨rfl, hb5⟩
    have HF := Lib.hid (H2.out.later hb5).below
    clear hb5 cE H2
    go_wp2
    go_ret
    exact Ret.mk rfl HF.out
end So
end Go.Proofs.YtccpkkopniadiaaGreatDoor
