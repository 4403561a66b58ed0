/-
  Walk of file.write. Conditions: none beyond each theorem's own premises.
-/
import Derived.Test.YtfljbiobiobamaaFlW
namespace Go.Proofs.Ytfljbiobiobamaa
open Go.RowKit
set_option linter.unusedVariables false
namespace Fl

theorem heldW {c : Nat → Nat} {P : Nat → Bool} {a : Nat} {ds : List Nat} (h : ∀ x, P (x / 16) = false → c x = 0) : ∀ i x, pW P a i (x / 16) = false → cW c a ds i x = 0
  | 0, x, hx => h x hx
  | i + 1, x, hx => by
    change padd (pW P a i) ((a + i) / 16) (x / 16) = false at hx
    unfold padd at hx
    rw [Bool.or_eq_false_iff, decide_eq_false_iff_not] at hx
    show upd (cW c a ds i) (a + i) (ds.getD i 0) x = 0
    unfold upd
    rw [if_neg (fun e => hx.2 (by rw [e]))]
    exact heldW h i x hx.1
theorem fl_new {w0 w : World} {gf gm L K g : Nat} {bl : List (Nat × Nat)} {c : Nat → Nat} {P : Nat → Bool} {J : List It} (hk : PK bl P) (hK : P K = false) (hlt : K < 256) (hz : pg c K = List.replicate 16 0) {n : Nat} {h : Int → Option Nat}
    (hn : n = bl.length + 1) (hh : h = mup (hB bl) (K : Int) g)
    (H : Sep w0 w ((FL gf gm L bl c J ++ [It.cells g 115 (List.replicate 16 (.int .u8 0))]).set 1 (.map Try.prog 3 (Value.int .i64) pE gm n h))) :
    Sep w0 w (FL gf gm L (bl ++ [(K, g)]) c J) := by
  obtain ⟨_, hadd⟩ := hk.add (g := g) hK hlt
  rw [hadd] at hh
  subst hn hh
  have H2 : Sep w0 w (fI gf gm L :: .map Try.prog 3 (Value.int .i64) pE gm (bl.length + 1) (hB (bl ++ [(K, g)])) :: ((bl.map (pI c) ++ J) ++ [It.cells g 115 (List.replicate 16 (.int .u8 0))])) := H
  refine H2.perm ?_
  unfold FL mI
  rw [List.length_append, List.map_append]
  refine List.Perm.cons _ (List.Perm.cons _ ?_)
  have e : List.map (pI c) [(K, g)] = ([It.cells g 115 (List.replicate 16 (.int .u8 0))] : List It) := by
    show [It.cells g _ ((pg c K).map bV)] = _
    rw [hz]
    rfl
  rw [e, List.append_assoc, List.append_assoc]
  exact List.Perm.append_left _ List.perm_append_comm

set_option maxRecDepth 100000 in
set_option maxHeartbeats 3200000 in
theorem fwrite_any (gf gm : Nat) (s : Sf) (bl : List (Nat × Nat)) (J : List It) (a n c : Nat) (A : Option Addr) (ds : List Nat) (w0 w : World) (hs : Sep w0 w (FL gf gm s.L bl s.c J)) (hk : PK bl s.P) (ho : s.Ok)
    (hr : Rd w0 w0.heap.size 1 A n (ds.flatMap bcell)) (hl : ds.length = n) (hb : a + n ≤ 4096) :
    Calls Try.prog 25 #[.pointer (some ⟨gf, 0, none⟩), .int .i64 (a : Int), .slice A n c] w (fun e w' => e = .returned (.tuple #[]) ∧ ∃ bl', PK bl' (s.write a ds).P ∧ Sep w0 w' (FL gf gm (s.write a ds).L bl' (s.write a ds).c J)) := by
  have HS0 := Lib.hid hs
  have HK0 := Lib.hid hk
  have HO := Lib.hid ho
  have HR := Lib.hid hr
  have HL := Lib.hid hl
  have hLL := ho.len
  clear hs hk ho hr hl
  go_enter Try.func25, Try.ntmps25
  go_wp2
  go_loopg [11] n (fun g v wr => ∃ (i : Nat) (bl : List (Nat × Nat)), i ≤ n ∧ g = n - i ∧ v = .int .i64 i ∧ Hid (PK bl (pW s.P a i)) ∧ Sep w0 wr (FL gf gm s.L bl (cW s.c a ds i) J))
  case atStart => exact ⟨0, bl, Nat.zero_le _, rfl, rfl, HK0, HS0.out⟩
  case round =>
    clear HS0 HK0 bl
    obtain ⟨i, bl, hin, rfl, rfl, HK, hs⟩ := hrel
    have HS := Lib.hid hs
    clear hs
    by_cases hlt : i < n
    · obtain ⟨b, off, rfl, hbb, hc⟩ := HR.out.at_ bcell_len (by omega)
      obtain ⟨v, hv⟩ : ∃ v, ds[i]? = some v := ⟨_, List.getElem?_eq_getElem (by rw [HL.out]; exact hlt)⟩
      have e0 : wr.cell? ⟨b, off + i, none⟩ = some (.int .u8 (v : Int)) := (HS.out.below.cell hbb).trans (by have := hc i 0 v _ hv rfl; simpa using this)
      have hvd : ds.getD i 0 = v := by rw [List.getD_eq_getElem?_getD, hv]; rfl
      clear hc hv
      obtain ⟨X, hX⟩ : ∃ X, X = a + i := ⟨_, rfl⟩
      have HX := Lib.hid hX
      have hXb : X < 4096 := by omega
      have x1 : (a : Int) + (i : Int) = (X : Int) := by omega
      have HN : Hid (cW s.c a ds (i + 1) = upd (cW s.c a ds i) X v ∧ pW s.P a (i + 1) = padd (pW s.P a i) (X / 16)) := Lib.hid ⟨by rw [HX.out, ← hvd]; rfl, by rw [HX.out]; rfl⟩
      have HZ := Lib.hid (heldW (a := a) (ds := ds) HO.out.held i)
      clear hX hvd
      generalize cW s.c a ds i = ci at HS HN HZ
      generalize pW s.P a i = Pi at HK HN HZ
      have q1 := quo16 X
      have q2 := rem16 X
      have q3 : (X : Int) / 16 = ((X / 16 : Nat) : Int) := rfl
      have q4 : (X : Int) % 16 = ((X % 16 : Nat) : Int) := rfl
      have r0 : X % 16 < 16 := by omega
      have hK1 : X / 16 < 256 := by omega
      have f0 := HS.out.cell 0 rfl (k := 0) rfl
      have hlk := HS.out.look 1 rfl kintL (wf_nat (k := X / 16) (by omega)) Try.underlying72 (pz wr)
      cases hP : Pi (X / 16) with
      | true =>
        obtain ⟨j, g, hj, hh⟩ := HK.out.find hP
        rw [hh] at hlk
        simp only [Option.elim, pE] at hlk
        have hc := HS.out.cell (j + 2) (fl_at hj) (k := X % 16) (v := bV (ci X)) (by
          rw [List.getElem?_map, pg_at _ _ _ (by omega), show 16 * (X / 16) + X % 16 = X by omega]
          rfl)
        have v0 := HS.out.froz (j + 2) (fl_at hj) (k := X % 16)
        have H9 : Hid (Sep w0 (wr.setCell ⟨g, X % 16, none⟩ (.int .u8 (v : Int))) (FL gf gm s.L bl (upd ci X v) J)) := Lib.hid (by
          have h := HS.out.set (j + 2) (fl_at hj) (k := X % 16) (bV v)
          rw [fl_set HK.out.nd hj] at h
          exact h)
        have HK9 : Hid (PK bl (padd Pi (X / 16))) := Lib.hid (HK.out.same hP)
        unfold bV at hc
        clear hj hh hP
        generalize X % 16 = r at q2 q4 hc v0 r0 H9
        generalize X / 16 = K at q1 q3 hlk hK1 HK9 HN
        go_wp2
        go_roundg (n - (i + 1))
        case measure => omega
        case rel => exact ⟨i + 1, bl, by omega, rfl, by go_num, by rw [HN.out.2]; exact HK9, by rw [HN.out.1]; exact H9.out⟩
      | false =>
        have hno := HK.out.none hP
        rw [hno] at hlk
        simp only [Option.elim] at hlk
        have hz := pg_new HZ.out hP
        have H1 := HS.out.new 115 (List.replicate 16 (.int .u8 0))
        obtain ⟨w2, hst, hsz, h2⟩ := H1.store 1 rfl kintL (wf_nat (k := X / 16) (by omega)) Try.underlying72 (by have := HK.out.len; simp only [maxLen]; omega) wr.heap.size
        have H3 := fl_new (g := wr.heap.size) (n := if (hB bl ((X / 16 : Nat) : Int)).isSome = true then bl.length else bl.length + 1) (h := mup (hB bl) ((X / 16 : Nat) : Int) wr.heap.size) HK.out hP hK1 hz (by rw [hno]; rfl) rfl h2
        have hadd := (HK.out.add (g := wr.heap.size) hP hK1).1
        have hpt : padd Pi (X / 16) (X / 16) = true := by unfold padd; simp
        obtain ⟨j, g, hj, hh⟩ := hadd.find hpt
        have hlk2 := H3.look 1 rfl kintL (wf_nat (k := X / 16) (by omega)) Try.underlying72 (pz w2)
        rw [hh] at hlk2
        simp only [Option.elim, pE] at hlk2 hst
        have f2 := H3.cell 0 rfl (k := 0) rfl
        have hc := H3.cell (j + 2) (fl_at hj) (k := X % 16) (v := bV (ci X)) (by
          rw [List.getElem?_map, pg_at _ _ _ (by omega), show 16 * (X / 16) + X % 16 = X by omega]
          rfl)
        have v0 := H3.froz (j + 2) (fl_at hj) (k := X % 16)
        have f3 := H1.cell 0 rfl (k := 0) rfl
        have H9 : Hid (Sep w0 (w2.setCell ⟨g, X % 16, none⟩ (.int .u8 (v : Int))) (FL gf gm s.L (bl ++ [(X / 16, wr.heap.size)]) (upd ci X v) J)) := Lib.hid (by
          have h := H3.set (j + 2) (fl_at hj) (k := X % 16) (bV v)
          rw [fl_set hadd.nd hj] at h
          exact h)
        have HK9 : Hid (PK (bl ++ [(X / 16, wr.heap.size)]) (padd Pi (X / 16))) := Lib.hid hadd
        unfold bV at hc
        clear hj hh hP hno hz H1 hsz h2 H3 hadd hpt
        simp only [List.replicate_succ, List.replicate_zero] at hst f3
        generalize X % 16 = r at q2 q4 hc v0 r0 H9
        generalize X / 16 = K at q1 q3 hlk hK1 HK9 HN hlk2 hst H9
        go_wp2
        go_roundg (n - (i + 1))
        case measure => omega
        case rel => exact ⟨i + 1, _, by omega, rfl, by go_num, by rw [HN.out.2]; exact HK9, by rw [HN.out.1]; exact H9.out⟩
    · obtain rfl : i = n := by omega
      have f0 := HS.out.cell 0 rfl (k := 0) rfl
      have f1 := HS.out.cell 0 rfl (k := 1) rfl
      have v1 := HS.out.froz 0 rfl (k := 1)
      have HP : Hid (pW s.P a i = (s.write a ds).P ∧ cW s.c a ds i = (s.write a ds).c) := Lib.hid ⟨by rw [← HL.out]; rfl, by rw [← HL.out]; rfl⟩
      by_cases h0 : i = 0
      · have hE : Hid ((s.write a ds).L = s.L) := Lib.hid (if_pos (List.eq_nil_of_length_eq_zero (by rw [HL.out, h0])))
        have hp : ¬ (i : Int) > 0 := by omega
        clear h0
        go_wp2
        refine bodyPost_end (v := .tuple #[]) (by simp [results, Try.results25]) rfl ?_
        refine ⟨rfl, bl, by rw [← HP.out.1]; exact HK.out, ?_⟩
        rw [hE.out, ← HP.out.2]
        exact HS.out
      · obtain ⟨mx, HM, hmx⟩ := max2_ex Try.prog (s.L : Int) ((a : Int) + (i : Int))
        have hE : Hid (mx = (((s.write a ds).L : Nat) : Int)) := Lib.hid (by
          have h1 : (s.write a ds).L = max s.L (a + ds.length) := if_neg (fun e => h0 (by rw [← HL.out, e]; rfl))
          rw [HM.out, h1, HL.out]
          split <;> omega)
        have hp : (i : Int) > 0 := by omega
        have H9 := Lib.hid (HS.out.set 0 rfl (k := 1) (.int .i64 mx))
        clear h0
        go_wp2
        refine bodyPost_end (v := .tuple #[]) (by simp [results, Try.results25]) rfl ?_
        refine ⟨rfl, bl, by rw [← HP.out.1]; exact HK.out, ?_⟩
        have h := H9.out
        rw [hE.out] at h ⊢
        rw [← HP.out.2]
        exact h
end Fl
end Go.Proofs.Ytfljbiobiobamaa
