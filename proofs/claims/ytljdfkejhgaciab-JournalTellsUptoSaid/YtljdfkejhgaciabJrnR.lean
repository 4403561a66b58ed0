/-
  Walk of journal.Read.
-/
import Derived.Test.YtljdfkejhgaciabJrnM
namespace Go.Proofs.Ytljdfkejhgaciab
open Go.RowKit
namespace Jrn
open Crc

theorem rows_info : (Try.prog.info? 23).map (fun i => (i.zero, i.size, i.bytes)) = some (some (.slice none 0 0), 1, 24) := by kernel_rfl

/-- a list of records of the call's own, and a number -/
def ReadRet (w : World) (p : List (List Nat) × Nat) (e : Ending) (w' : World) : Prop :=
  ∃ v vals, e = .returned (.tuple #[v, .int .i64 (p.2 : Int)]) ∧ w'.ownsRow w.heap.size 23 1 v p.1.length vals ∧ Held w' w.heap.size vals p.1 ∧ Below w.heap.size w w'

theorem own_tail {w : World} {base E n c : Nat} {A : Option Addr} {x : Value} {xs : List Value} (h : w.ownsRow base E 1 (.slice A (n + 1) c) (n + 1) (x :: xs)) :
    ∃ A', (if c = 1 then A else A.map fun a => a.add 1) = A' ∧ Rd w w.heap.size 1 A' n xs ∧ n + 1 ≤ c ∧ ∃ g, A = some ⟨g, 0, none⟩ := by
  have hr := Rd.of_own h
  obtain ⟨b, off, rfl, hb, hc⟩ := hr.2 (by omega)
  have hc1 : n + 1 ≤ c ∧ ∃ g, (some ⟨b, off, none⟩ : Option Addr) = some ⟨g, 0, none⟩ := by
    rcases h.2 with ⟨_, h0⟩ | ⟨g, cap, cur, hv, _, _, hn, _⟩
    · omega
    · injection hv with e1 e2 e3
      exact ⟨by omega, g, e1⟩
  refine ⟨_, rfl, ⟨by have := h.1; simp at this; omega, fun hn => ?_⟩, hc1.1, hc1.2⟩
  rw [if_neg (by omega)]
  refine ⟨b, off + 1, by simp [Addr.add], hb, fun j u hu => ?_⟩
  have := hc (j + 1) u (by simpa using hu)
  rw [← this]
  congr 2
  omega

set_option maxHeartbeats 1600000 in
theorem read_any (A : Option Addr) (n c : Nat) (l : List Nat) (w : World) (hr : Rd w w.heap.size 1 A n (l.flatMap bcell)) (hl : l.length = n) (hn : n ≤ 1048576) (hnc : n ≤ c) (hcm : c ≤ 9223372036854775807) (hb : ∀ x ∈ l, x < 256) :
    Calls Try.prog 28 #[.slice A n c] w (ReadRet w (readE l)) := by
  obtain ⟨j0, hj, hjz, hj1, hj2⟩ := info_parts rows_info
  have HR := Lib.hid hr
  have HL := Lib.hid hl
  have HB := Lib.hid hb
  clear hr hl hb
  go_enter Try.func28, Try.ntmps28
  go_wp2
  go_loopg [4, 5] (n + 1) (fun g v i wr => ∃ (a m : Nat) (out : List (List Nat)) (vals : List Value), a ≤ n ∧ g = n + 1 - a ∧ i = .int .i64 a ∧ m ≤ a ∧ Hid (out.length = m) ∧ wr.ownsRow w.heap.size 23 1 v m vals ∧ Hid (Held wr w.heap.size vals out) ∧
    Hid (ReadTo l a out) ∧ Below w.heap.size w wr)
  case atStart => exact ⟨0, 0, [], [], Nat.zero_le _, rfl, rfl, by omega, Lib.hid rfl, own_none, Lib.hid Held.nil_, Lib.hid (readTo_start l), Below.refl _ _⟩
  case round =>
    obtain ⟨a, m, out, vals, ha, rfl, rfl, hm, HM, hown, HH, HT, hB⟩ := hrel
    have HO := Lib.hid hown
    clear hown
    by_cases hlt : a < n
    · obtain ⟨b, off, rfl, hbb, hcell⟩ := HR.out.at_ bcell_len (show 0 < n by omega)
      obtain ⟨q, hq⟩ : ∃ q, l[a]? = some q := ⟨_, List.getElem?_eq_getElem (by rw [HL.out]; exact hlt)⟩
      have c0 : wr.cell? ⟨b, off + a, none⟩ = some (.int .u8 (q : Int)) := (hB.cell hbb).trans (by have := hcell a 0 q _ hq rfl; simpa using this)
      have hq8 : q < 256 := HB.out q (List.mem_of_getElem? hq)
      have hqd : l.getD a 0 = q := by rw [List.getD_eq_getElem?_getD, hq]; rfl
      clear hcell hq
      by_cases hend : a + q + 3 ≤ n
      · have hst := open_step HB.out (by rw [HL.out]; exact hlt) hqd (by rw [HL.out]; exact hend)
        have hseg := Rd_seg HR.out HL.out (show a + (q + 3) ≤ n by omega)
        have cO := open_any (some ⟨b, off + a, none⟩) (q + 3) (c - a) (seg l a (q + 3)) wr ((hseg.below hB).more hB.size) (seg_len (by rw [HL.out]; omega)) (by omega) (by omega) (seg_small HB.out)
        have n1 : ¬ c = a := by omega
        clear hqd hseg
        rcases hst with ⟨r, hs1, hs2, hs3, hs4⟩ | ⟨hs1, hs3⟩
        · rw [hs3] at cO
          have HN := Lib.hid (readTo_step HT.out hs1 (by rw [HL.out]; exact hlt))
          have HRL := Lib.hid hs2
          have HCO := Lib.hid cO
          have HR4 := Lib.hid hs4
          clear cO hs1 hs2 hs3 hs4
          go_wp2_with fail
          rw [show a + q + 3 - a = q + 3 by omega]
          refine HCO.out.mono ?_; rintro e w1 ⟨v1, rfl, hown1, hb1⟩
          obtain ⟨A1, c1, hv1⟩ := own_slice hown1
          simp only [List.length_cons, HRL.out] at hown1 hv1
          rw [hv1] at hown1 ⊢
          obtain ⟨A', hA', hRt, hc1, g, rfl⟩ := own_tail (x := .int .u8 (q : Int)) (xs := r.flatMap bcell) hown1
          have i1 : (1 : Int) ≤ (q : Int) + 1 := by omega
          have HOw := own_below HO.out hb1
          have HHw := HH.out.below hb1
          have hB1 := hB.trans (hb1.mono hB.size)
          have hz1 := hB1.size
          have hzr := hb1.size
          have cC : ∀ X Y, (if c1 = 1 then some (⟨g, 0, none⟩ : Addr) else some ⟨g, 1, none⟩) = X → Calls Try.prog 35 #[.slice X q Y] w1 (OwnRet w1 5 1 q (r.flatMap bcell)) := fun X Y hX => clone_any X q Y r w1 (by
            rw [← hX]
            have : (if c1 = 1 then some (⟨g, 0, none⟩ : Addr) else some ⟨g, 1, none⟩) = A' := by rw [← hA']; split <;> simp [Addr.add]
            rw [this]
            exact hRt) (by omega)
          have HCC := Lib.hid cC
          have HOW := Lib.hid HOw
          have HHW := Lib.hid HHw
          clear hown1 hv1 hA' hRt cC HOw HHw HCO
          have hcc : c1 = 1 ∨ ¬ c1 = 1 := by omega
          rcases hcc with hcc | hcc
          all_goals
            have HCX := HCC.out
            first | rw [if_pos hcc] at HCX | rw [if_neg hcc] at HCX
            have HCX0 := HCX _ 0 rfl
            have HCX1 := HCX _ (c1 - 1) rfl
            have HCY0 := Lib.hid HCX0
            have HCY1 := Lib.hid HCX1
            clear HCX HCX0 HCX1 HCC
            go_wp2_with fail
            first | (with_reducible refine HCY0.out.mono ?_) | (with_reducible refine HCY1.out.mono ?_)
            rintro e w2 ⟨v2, rfl, hown2, hb2⟩
            obtain ⟨A2, c2, hv2⟩ := own_slice hown2
            rw [hv2] at hown2 ⊢
            have hB2 := hB1.trans (hb2.mono hB1.size)
            have hz2 := hB2.size
            have how := own_below (own_below HOW.out hb2) ((Below.refl _ w2).alloc (Nat.le_refl _) (.cells #[.slice A2 q c2] 23))
            have hnew := Rd.of_own (own_new w2 23 #[.slice A2 q c2] 1 1 rfl (by simp [maxLen]) (Nat.le_refl _))
            have hh2 := ((HHW.out.below hb2).snoc (r := r) (by rw [HRL.out]; exact own_mono hown2 hz1)).below ((Below.refl _ w2).alloc (Nat.le_refl _) (.cells #[.slice A2 q c2] 23))
            have HH2 := Lib.hid hh2
            clear hown2 hv2 HCY0 HCY1 hh2
            go_wp2_with (at_builtin; refine wpList_append_rd _ rfl (.tmp 35) (.tmp 39) 38 rfl w.heap.size 23 j0 (.slice none 0 0) 1 24 Try.underlying38 hj hjz hj1 hj2 rfl (by omega) _ m vals rfl how _ _ 1 1 _ rfl hnew (by simp [Value.oneCell']) (by simp only [maxLen]; omega) (by omega) (by simp; omega) ?_; intro v3 w3 hown3 hg3 hat3)
            have hB3 := below_grown (hB2.alloc hB2.size _) how hg3 (by simp; omega)
            have hh3 := HH2.out.grown how hg3
            go_roundg (n + 1 - (a + q + 3))
            case measure => omega
            case rel => exact ⟨a + q + 3, m + 1, out ++ [r], vals ++ [.slice A2 q c2], by omega, rfl, by go_num, by omega, Lib.hid (by rw [List.length_append, HM.out]; rfl), hown3, Lib.hid hh3, Lib.hid (by have := HN.out; rwa [HRL.out] at this), hB3⟩
        · rw [hs3] at cO
          have HN := Lib.hid (readTo_end HT.out hs1)
          have HCO := Lib.hid cO
          clear cO hs1 hs3
          go_wp2_with fail
          rw [show a + q + 3 - a = q + 3 by omega]
          refine HCO.out.mono ?_; rintro e w1 ⟨v1, rfl, hown1, hb1⟩
          go_wp2
          go_ret2
          refine ⟨_, vals, by rw [HN.out]; rfl, ?_, ?_, hB.trans (hb1.mono hB.size)⟩
          · rw [HN.out]; simp only [HM.out]; exact own_below HO.out hb1
          · rw [HN.out]; exact HH.out.below hb1
      · have HN : Hid (readE l = (out, a)) := Lib.hid (readTo_end HT.out (step_out (by rw [hqd, HL.out]; omega)))
        clear hqd
        go_wp2
        go_ret2
        refine ⟨_, vals, by rw [HN.out]; rfl, ?_, ?_, hB⟩
        · rw [HN.out]; simp only [HM.out]; exact HO.out
        · rw [HN.out]; exact HH.out
    · have HN : Hid (readE l = (out, a)) := Lib.hid (readTo_end HT.out (step_out (by rw [HL.out]; omega)))
      go_wp2
      go_ret2
      refine ⟨_, vals, by rw [HN.out]; rfl, ?_, ?_, hB⟩
      · rw [HN.out]; simp only [HM.out]; exact HO.out
      · rw [HN.out]; exact HH.out
end Jrn
end Go.Proofs.Ytljdfkejhgaciab
