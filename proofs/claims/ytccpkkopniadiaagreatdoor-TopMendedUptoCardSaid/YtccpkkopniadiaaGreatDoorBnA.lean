/-
  Walk of alive: what a closed script tells. Conditions: none beyond each theorem's own premises.
-/
import Derived.Test.YtccpkkopniadiaaGreatDoorBnTw
namespace Go.Proofs.YtccpkkopniadiaaGreatDoor
open Go.RowKit Go.Shelf Go.Sort
set_option linter.unusedVariables false
namespace So
open _root_.Go.Proofs.YtccpkkopniadiaaGreatDoor.Bn _root_.Go.Proofs.YtccpkkopniadiaaGreatDoor.Dr

set_option maxHeartbeats 1600000 in
theorem equal_tc (A A' : Option Addr) (n c c' : Nat) (l : List By) (w : World) (hr : Rd w w.heap.size 1 A n (l.flatMap tc)) (hr' : Rd w w.heap.size 1 A' n (l.flatMap tc)) (hl : l.length = n) (hn : n ≤ 9223372036854775807) :
    Calls Tryz.prog 8 #[.slice A n c, .slice A' n c'] w (Ret w (.bool true)) := by
  have HR := Lib.hid hr
  have HR' := Lib.hid hr'
  have HL := Lib.hid hl
  clear hr hr' hl
  go_enter Tryz.func8, Tryz.ntmps8
  go_wp2
  go_loopg [13] n (fun g i wr => ∃ k : Nat, k ≤ n ∧ g = n - k ∧ i = .int .i64 k ∧ Below w.heap.size w wr)
  case atStart => exact ⟨0, Nat.zero_le _, rfl, rfl, Below.refl _ _⟩
  case round =>
    obtain ⟨k, hk, rfl, rfl, hB⟩ := hrel
    by_cases hlt : k < n
    · obtain ⟨b, off, rfl, hb, hc⟩ := HR.out.at_ tc_len (by omega)
      obtain ⟨b', off', rfl, hb', hc'⟩ := HR'.out.at_ tc_len (by omega)
      obtain ⟨y, hy⟩ : ∃ y, l[k]? = some y := ⟨_, List.getElem?_eq_getElem (by rw [HL.out]; exact hlt)⟩
      have d1 : wr.cell? ⟨b, off + k, none⟩ = some (.string (bs y)) := (hB.cell (p := ⟨b, off + k, none⟩) hb).trans (by simpa using hc k 0 y _ hy rfl)
      have d2 : wr.cell? ⟨b', off' + k, none⟩ = some (.string (bs y)) := (hB.cell (p := ⟨b', off' + k, none⟩) hb').trans (by simpa using hc' k 0 y _ hy rfl)
      have E : ((bs y).toList == (bs y).toList) = true := by simp
      have i0 : (0 : Int) ≤ (k : Int) := by omega
      have i1 : (k : Int) < (n : Int) := by omega
      clear hc hc' hy
      go_wp2
      go_quiet (fail)
      go_wp2
      generalize hxw : World.drewN wr _ = xw
      have xh : Below wr.heap.size wr xw := by rw [← hxw]; exact below_drewN (Below.refl _ _) _
      clear hxw
      go_roundg (n - (k + 1))
      case measure => omega
      case rel => exact ⟨k + 1, by omega, rfl, by go_num, hB.trans (xh.mono hB.size)⟩
    · go_wp2
      go_ret
      exact Ret.mk rfl hB


def aTxt : By := [119, 114, 105, 116, 101, 32, 97, 32, 54, 49, 10, 115, 121, 110, 99, 10, 119, 114, 105, 116, 101, 32, 97, 32, 54, 50, 10, 99, 114, 97, 115, 104, 32, 48, 10, 114, 101, 97, 100, 32, 97, 10]
abbrev zA : ByteArray := ⟨#[97]⟩
abbrev zB : ByteArray := ⟨#[98]⟩
def aOps : List Op := [⟨1, zA, zA, 0⟩, ⟨4, e0, e0, 0⟩, ⟨1, zA, zB, 0⟩, ⟨5, e0, e0, 0⟩, ⟨3, zA, e0, 0⟩]
def aAns : List An := [⟨0, ⟨#[]⟩⟩, ⟨0, ⟨#[]⟩⟩, ⟨0, ⟨#[]⟩⟩, ⟨0, ⟨#[]⟩⟩, ⟨0, zA⟩]
def aFs : Fs := mup mno zA zA
theorem a_pr : PR aTxt [] (some aOps) 0 := by
  have it0 : Lib.itoa 0 = [48] := by rw [itoa_nat 0 (by omega)]; exact dec_small (by decide)
  refine PR.line (l := [119, 114, 105, 116, 101, 32, 97, 32, 54, 49]) (o := ⟨1, zA, zA, 0⟩) (by decide) ⟨.write _ _, by decide, by decide⟩ ?_
  refine PR.line (l := [115, 121, 110, 99]) (o := ⟨4, e0, e0, 0⟩) (by decide) ⟨.sync, by decide, by decide⟩ ?_
  refine PR.line (l := [119, 114, 105, 116, 101, 32, 97, 32, 54, 50]) (o := ⟨1, zA, zB, 0⟩) (by decide) ⟨.write _ _, by decide, by decide⟩ ?_
  refine PR.line (l := [99, 114, 97, 115, 104, 32, 48]) (o := ⟨5, e0, e0, 0⟩) (by decide) ⟨.crash 0, by decide, by show pC ++ 32 :: Lib.itoa 0 = _; rw [it0]; rfl⟩ ?_
  refine PR.line (l := [114, 101, 97, 100, 32, 97]) (o := ⟨3, zA, e0, 0⟩) (by decide) ⟨.read _, by decide, by decide⟩ ?_
  exact PR.done
theorem a_now (D : Fs) (b : ByteArray) : now D [⟨1, zA, b, 0⟩] = mup D zA b := rfl
theorem a_fs : aFs zA = some zA := mup_same _ _ _
theorem a_plays : Plays mno [] aOps aAns aFs [] := by
  refine .cons (.fresh rfl (by decide) (by decide) rfl 0 cnt_no (by decide)) ?_
  refine .cons (.sync rfl) ?_
  refine .cons (.over rfl (by decide) (by decide) zA a_fs) ?_
  refine .cons (.crash rfl 0 (by decide) (by decide)) ?_
  refine .cons (.read rfl zA a_fs) ?_
  exact .nil
theorem a_kept : KeptIs aFs [⟨zA, zA⟩] := by
  refine ⟨List.pairwise_singleton _ _, fun x => ?_⟩
  rw [List.mem_singleton]
  unfold aFs
  constructor
  · rintro rfl
    exact mup_same _ _ _
  · intro h
    by_cases e : x.nm = zA
    · rw [e, mup_same] at h
      injection h with h
      obtain ⟨n, d⟩ := x
      simp only at e h
      rw [e, ← h]
    · rw [mup_other _ _ e] at h
      simp [mno] at h
def aLines : List By := [[111, 107], [111, 107], [111, 107], [111, 107], [111, 107, 32, 54, 49], [107, 101, 112, 116, 32, 97, 32, 54, 49]]
theorem a_tells : tells aOps aAns [⟨zA, zA⟩] = aLines := by decide

set_option maxRecDepth 100000 in
set_option maxHeartbeats 1600000 in
theorem alive_any (w : World) (hg : Gl w) : Calls Tryz.prog 9 #[] w (Ret w (.bool true)) := by
  have cP := Lib.hid (tell_ok aTxt (bs aTxt) rfl (by decide) aOps 0 a_pr aAns aFs [] a_plays w hg)
  clear hg
  have e : bs aTxt = ⟨#[119, 114, 105, 116, 101, 32, 97, 32, 54, 49, 10, 115, 121, 110, 99, 10, 119, 114, 105, 116, 101, 32, 97, 32, 54, 50, 10, 99, 114, 97, 115, 104, 32, 48, 10, 114, 101, 97, 100, 32, 97, 10]⟩ := rfl
  rw [e] at cP
  clear e
  go_enter Tryz.func9, Tryz.ntmps9
  go_wp2_with fail
  refine cP.out.mono ?_; rintro en w1 ⟨ks, A, p, c, HK, HP, hpc, hpb, rfl, hs1⟩
  obtain rfl : ks = [⟨zA, zA⟩] := kept_one HK.out a_kept
  rw [a_tells] at HP hs1
  obtain rfl : p = 6 := HP.out.symm
  have HR : Hid (∀ W, Below w1.heap.size w1 W → Rd W W.heap.size 1 A 6 (aLines.flatMap tc)) := Lib.hid (fun W hW => (hs1.rd 0 rfl).later hW)
  have B1 := Lib.hid hs1.below
  clear hs1 cP HK HP
  have cE := Lib.hid (fun W h c' c2 A' (h2 : Rd W W.heap.size 1 A' 6 (aLines.flatMap tc)) => equal_tc A A' 6 c' c2 aLines W (HR.out W h) h2 rfl (by omega))
  have hnew := Lib.hid (Rd.of_own (own_new w1 9 (aLines.flatMap tc).toArray 1 6 rfl (by simp [maxLen]) (Nat.le_refl _)))
  have hB := Lib.hid ((Below.refl w1.heap.size w1).alloc (Nat.le_refl _) (.cells (aLines.flatMap tc).toArray 9))
  go_wp2_with fail
  refine (cE.out _ hB.out c 6 _ hnew.out).mono ?_; rintro en w5 ⟨rfl, hb5⟩
  have HF := Lib.hid (B1.out.trans ((hB.out.trans (hb5.mono hB.out.size)).mono B1.out.size))
  clear hb5 cE hB hnew HR
  go_wp2
  go_ret
  exact Ret.mk rfl HF.out
end So
end Go.Proofs.YtccpkkopniadiaaGreatDoor
