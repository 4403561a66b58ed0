/-
  Walk of press.Unpack. Conditions: none.
-/
import Derived.Test.YtakmfjnfkjdbfaaPrW2
import Derived.Test.YtakmfjnfkjdbfaaRep
import Derived.Test.YtakmfjnfkjdbfaaPart
namespace Go.Proofs.Ytakmfjnfkjdbfaa
open Go.RowKit
set_option linter.unusedVariables false
namespace Pr

theorem bytes_nil {w w' : World} {e : Int} {L : List It} (H : Sep w w' L) : BytesRet w [] e (.returned (.tuple #[.slice none 0 0, .int .i64 e])) w' :=
  ⟨none, 0, Nat.le_refl _, rfl, (H.pick [] (by decide) (by simp)).nilRow 5 1 none⟩
theorem rd_part' {P : Program} {t e : TypeId} (ht' : P.underlying t = some (.slice e)) (hC : ∀ w, (sizeOf e).run P w = .ok 1 w) {w : World} {B n c m : Nat} {A : Option Addr} {x : Nat} {tl : List Nat} (hr : Rd w B 1 A n ((x :: tl).flatMap bcell)) (hc : n ≤ c) (hm : m + 1 ≤ n) :
    ∃ A' c', (∀ W, (Instr.slice t (.slice A n c) (some (.int .i64 1)) (some (.int .i64 ((m + 1 : Nat) : Int))) none).run P W = .ok (.slice A' m c') W) ∧ m ≤ c' ∧ Rd w B 1 A' m ((tl.take m).flatMap bcell) := by
  have h1 := lh_run ht' hC A n c 1 (m + 1) (by omega) (by omega)
  have h2 := rd_fromAddr hr (k := 1) (by omega) hc
  rw [show m + 1 - 1 = m by omega] at h1
  rw [flat_drop bcell_len] at h2
  exact ⟨_, _, fun W => by have := h1 W; simpa using this, by omega, rd_take h2 (by omega)⟩

theorem rep_flat (y : Nat) : ∀ q : Nat, (List.replicate q y).flatMap bcell = List.replicate q (.int .u8 (y : Int))
  | 0 => rfl
  | q + 1 => by rw [List.replicate_succ, List.replicate_succ, List.flatMap_cons, rep_flat y q]; rfl
set_option maxRecDepth 100000 in
set_option maxHeartbeats 6400000 in
theorem unpack_any (A : Option Addr) (n c : Nat) (l o : List Nat) (e0 : Nat) (w : World) (hr : Rd w w.heap.size 1 A n (l.flatMap bcell)) (hl : l.length = n) (hnc : n ≤ c) (hcm : c ≤ 9223372036854775807) (hby : ∀ x ∈ l, x < 256) (hu : Un [] l o e0) :
    Calls Try.prog 18 #[.slice A n c] w (BytesRet w o (e0 : Int)) := by
  obtain ⟨ti, hti, t0, t1, t2⟩ := info_parts byte_info'
  have HR := Lib.hid hr
  have HL := Lib.hid hl
  have HU := Lib.hid hu
  have HBY := Lib.hid hby
  clear hr hl hu hby
  have S1 := Lib.hid ((Sep.nil_ w).nilRow 5 1 none)
  go_enter Try.func18, Try.ntmps18
  go_wp2
  go_loopg [0, 4] n (fun q v0 v4 wr => ∃ (A0 A4 : Option Addr) (nr cr no c4 : Nat) (rest out : List Nat), q = nr ∧ v0 = .slice A0 nr cr ∧ v4 = .slice A4 no c4 ∧ nr ≤ cr ∧ cr ≤ 9223372036854775807 ∧ no ≤ c4 ∧ no ≤ 4096 ∧ Hid (rest.length = nr) ∧ Hid (out.length = no) ∧ Hid (∀ x ∈ rest, x < 256) ∧ Hid (Rd w w.heap.size 1 A0 nr (rest.flatMap bcell)) ∧ Hid (Un out rest o e0) ∧ Sep w wr [.row 5 1 (.slice A4 no c4) no (out.flatMap bcell)])
  case atStart => exact ⟨A, none, n, c, 0, 0, l, [], rfl, rfl, rfl, hnc, hcm, Nat.le_refl _, by omega, HL, Lib.hid rfl, HBY, HR, HU, S1.out⟩
  case round =>
    clear S1 HR HL HU HBY
    obtain ⟨A0, A4, nr, cr, no, c4, rest, out, rfl, rfl, rfl, hcr, hcr2, hc4, hno, HRL, HOL, HBY, HR0, HUN, hs⟩ := hrel
    have HS := Lib.hid hs
    clear hs
    cases rest with
    | nil =>
      obtain rfl : gk = 0 := by simpa using HRL.out.symm
      obtain ⟨h1, h2⟩ : o = out ∧ e0 = 0 := by
        have h1 := HUN.out
        cases h1
        exact ⟨rfl, rfl⟩
      have HE := Lib.hid (And.intro h1 h2)
      clear h1 h2
      go_wp2
      refine bodyPost_ret (v := .tuple #[.slice A4 no c4, .int .i64 0]) (by simp [results, Try.results18]) rfl ?_
      obtain ⟨rfl, rfl⟩ := HE.out
      unfold BytesRet
      rw [HOL.out]
      exact ⟨A4, c4, hc4, rfl, HS.out⟩
    | cons x t =>
      have hlen : t.length + 1 = gk := by simpa using HRL.out
      have i1 : (0 : Int) < (gk : Int) := by omega
      have hx8 : x < 256 := HBY.out x (by simp)
      have HBY2 : Hid (∀ y ∈ t, y < 256) := Lib.hid (fun y hy => HBY.out y (by simp [hy]))
      obtain ⟨b, off, rfl, hb, hc⟩ := HR0.out.at_ bcell_len (by omega)
      have e0' := byte_at (k := 0) hb HS.out.below hc rfl
      have p0 : ∀ z : LaterOf wr, z.w.cell? ⟨b, off, none⟩ = some (.int .u8 (x : Int)) := fun z => z.cell e0'
      clear hc HBY
      go_upto_region 3 with (fail)
      refine wp_region_later (by kernel_rfl) (by kernel_rfl) ?_
      repeat (go_big_quiet_step (fail))
      refine wpQuiet_nil ?_; intro x1 hw'; obtain ⟨xq, hw''⟩ := hw'; obtain ⟨xw0, h1⟩ := xq; change x1 = xw0 at hw''; subst hw''
      have HS1 := Lib.hid (HS.out.later h1)
      have f0 : x1.cell? ⟨b, off, none⟩ = some (.int .u8 (x : Int)) := p0 ⟨x1, h1⟩
      clear HS e0' p0 h1
      by_cases hx : 128 ≤ x
      · have k1 : (128 : Int) ≤ (x : Int) := by omega
        obtain ⟨q, HQ⟩ : ∃ q : Nat, Hid (q + 127 = x) := ⟨x - 127, Lib.hid (by omega)⟩
        have kq : (x : Int) - 128 + 1 = (q : Int) := by have := HQ.out; omega
        have kb : q ≤ 129 := by have := HQ.out; omega
        have HQ2 : Hid (x - 127 = q) := Lib.hid (by have := HQ.out; omega)
        cases t with
        | nil =>
          have hg1 : gk = 1 := by simpa using hlen.symm
          subst hg1
          obtain ⟨rfl, rfl⟩ : o = [] ∧ e0 = 1 := by
            have h1 := HUN.out
            cases h1 with
            | short => exact ⟨rfl, rfl⟩
            | lit h2 _ _ _ => omega
            | litBig h2 _ _ => omega
          go_wp2
          refine bodyPost_ret (v := .tuple #[.slice none 0 0, .int .i64 1]) (by simp [results, Try.results18]) rfl ?_
          exact bytes_nil HS1.out
        | cons y tt =>
          have hlen2 : tt.length + 2 = gk := by simpa using hlen
          have k2 : ¬ (gk : Int) < 2 := by omega
          by_cases hbig : 4096 < no + q
          · obtain ⟨rfl, rfl⟩ : o = [] ∧ e0 = 2 := by
              have := HQ2.out
              have h2 := HOL.out
              have h1 := HUN.out
              cases h1 with
              | short h3 _ => have := h3 hx; simp only [List.length_cons] at this; omega
              | repBig => exact ⟨rfl, rfl⟩
              | rep _ h3 _ => omega
              | litBig h3 _ _ => omega
              | lit h3 _ _ _ => omega
            have k3 : (4096 : Int) < (no : Int) + (q : Int) := by omega
            go_wp2
            refine bodyPost_ret (v := .tuple #[.slice none 0 0, .int .i64 2]) (by simp [results, Try.results18]) rfl ?_
            exact bytes_nil HS1.out
          · have HUN2 : Hid (Un (out ++ List.replicate q y) tt o e0) := Lib.hid (by
              have h4 := HQ2.out
              have h2 := HOL.out
              have h1 := HUN.out
              cases h1 with
              | short h3 _ => have := h3 hx; simp only [List.length_cons] at this; omega
              | repBig _ h3 => omega
              | rep _ _ h3 => rw [h4] at h3; exact h3
              | litBig h3 _ _ => omega
              | lit h3 _ _ _ => omega)
            have k3 : ¬ (4096 : Int) < (no : Int) + (q : Int) := by omega
            obtain ⟨A1, cr1, hs1, hc1, hr1⟩ := rd_part' (P := Try.prog) (m := 1) Try.underlying33 (size_of_info hti t1) HR0.out hcr (by omega)
            have hs1' : ∀ W, (Instr.slice 33 (.slice (some ⟨b, off, none⟩) gk cr) (some (.int .i64 1)) (some (.int .i64 2)) none).run Try.prog W = .ok (.slice A1 1 cr1) W := hs1
            obtain ⟨m, hm⟩ : ∃ m, gk = 2 + m := ⟨gk - 2, by omega⟩
            obtain ⟨A2, cr2, hs2, hc2, hr2⟩ := rest_of (P := Try.prog) (m := m) Try.underlying33 (size_of_info hti t1) HR0.out hcr hm
            have hs2' : ∀ W, (Instr.slice 33 (.slice (some ⟨b, off, none⟩) gk cr) (some (.int .i64 2)) none none).run Try.prog W = .ok (.slice A2 m cr2) W := hs2
            have hcc : cr2 ≤ 9223372036854775807 := by
              have h5 := from_run (P := Try.prog) Try.underlying33 (size_of_info hti t1) (some ⟨b, off, none⟩) gk cr 2 (by omega) w
              have h6 := hs2 w
              rw [show ((2 : Nat) : Int) = 2 from rfl] at h5
              rw [show ((2 : Nat) : Int) = 2 from rfl, h5] at h6
              injection h6 with h6 _
              injection h6 with _ _ h6
              omega
            have cP := Lib.hid (repeat_any A1 cr1 q (y : Int) x1 (hr1.below HS1.out.below |>.more HS1.out.below.size) (by have := HQ.out; omega) (by omega))
            have HR2 : Hid (Rd w w.heap.size 1 A2 m (tt.flatMap bcell)) := Lib.hid hr2
            have HM := Lib.hid hm
            clear hs1 hs2 hr1 hr2 hm HUN
            go_wp2_with fail
            refine cP.out.mono ?_; rintro en w2 ⟨A3, c3, hc3, rfl, hb3, hr3⟩
            have HS2 := Lib.hid (HS1.out.later hb3)
            have HR3 : Hid (Rd w2 w2.heap.size 1 A3 q ((List.replicate q y).flatMap bcell)) := Lib.hid (by rw [rep_flat]; exact hr3)
            clear hb3 hr3 cP HS1 f0
            go_upto_region 14 with ((at_builtin; refine wpList_append_sep HS2.out 0 rfl (.tmp 42) (.tmp 46) 33 rfl 5 ti (.int .u8 0) 1 1 Try.underlying33 hti t0 t1 t2 rfl (by omega) _ no _ rfl rfl _ _ q _ _ rfl HR3.out (by first | exact bcell_one _ | (simp [Value.oneCell'])) (by simp only [maxLen]; omega) (by omega) ?_; intro A6 c6 w6 hc6 hs6 H6'; have H6 := Lib.hid H6'; clear H6'))
            have HB : Hid (Sep w w6 [.row 5 1 (.slice A6 (no + q) c6) (no + q) ((out ++ List.replicate q y).flatMap bcell)]) := Lib.hid (by rw [List.flatMap_append]; exact H6.out)
            clear H6 HS2 HR3
            go_wp2
            go_roundg m
            case measure => have := HM.out; omega
            case rel => exact ⟨A2, A6, m, cr2, no + q, c6, tt, out ++ List.replicate q y, rfl, rfl, rfl, hc2, hcc, hc6, by omega, Lib.hid (by have := HM.out; omega), Lib.hid (by rw [List.length_append, HOL.out, List.length_replicate]), Lib.hid (fun z hz => HBY2.out z (by simp [hz])), HR2, HUN2, HB.out⟩
      · have k1 : ¬ (128 : Int) ≤ (x : Int) := by omega
        by_cases hsh : gk < x + 2
        · obtain ⟨rfl, rfl⟩ : o = [] ∧ e0 = 1 := by
            have h1 := HUN.out
            cases h1 with
            | short => exact ⟨rfl, rfl⟩
            | repBig h2 _ => omega
            | rep h2 _ _ => omega
            | litBig _ h2 _ => omega
            | lit _ h2 _ _ => omega
          have k2 : (gk : Int) < (x : Int) + 2 := by omega
          go_wp2
          refine bodyPost_ret (v := .tuple #[.slice none 0 0, .int .i64 1]) (by simp [results, Try.results18]) rfl ?_
          exact bytes_nil HS1.out
        · have k2 : ¬ (gk : Int) < (x : Int) + 2 := by omega
          by_cases hbig : 4096 < no + (x + 1)
          · obtain ⟨rfl, rfl⟩ : o = [] ∧ e0 = 2 := by
              have h2 := HOL.out
              have h1 := HUN.out
              cases h1 with
              | short _ h3 => have := h3 (by omega); omega
              | repBig h3 _ => omega
              | rep h3 _ _ => omega
              | litBig => exact ⟨rfl, rfl⟩
              | lit _ _ h3 _ => omega
            have k3 : (4096 : Int) < (no : Int) + ((x : Int) + 1) := by omega
            go_wp2
            refine bodyPost_ret (v := .tuple #[.slice none 0 0, .int .i64 2]) (by simp [results, Try.results18]) rfl ?_
            exact bytes_nil HS1.out
          · have HUN2 : Hid (Un (out ++ t.take (x + 1)) (t.drop (x + 1)) o e0) := Lib.hid (by
              have h2 := HOL.out
              have h1 := HUN.out
              cases h1 with
              | short _ h3 => have := h3 (by omega); omega
              | repBig h3 _ => omega
              | rep h3 _ _ => omega
              | litBig _ _ h3 => omega
              | lit _ _ _ h3 => exact h3)
            have k3 : ¬ (4096 : Int) < (no : Int) + ((x : Int) + 1) := by omega
            obtain ⟨A1, cr1, hs1, hc1, hr1⟩ := rd_part' (P := Try.prog) (m := x + 1) Try.underlying33 (size_of_info hti t1) HR0.out hcr (by omega)
            have hs1' : ∀ W, (Instr.slice 33 (.slice (some ⟨b, off, none⟩) gk cr) (some (.int .i64 1)) (some (.int .i64 ((x : Int) + 2))) none).run Try.prog W = .ok (.slice A1 (x + 1) cr1) W := fun W => by
              have := hs1 W
              rwa [show ((x + 1 + 1 : Nat) : Int) = (x : Int) + 2 by omega] at this
            obtain ⟨m, hm⟩ : ∃ m, gk = (x + 2) + m := ⟨gk - (x + 2), by omega⟩
            obtain ⟨A2, cr2, hs2, hc2, hr2⟩ := rest_of (P := Try.prog) (m := m) Try.underlying33 (size_of_info hti t1) HR0.out hcr hm
            have hs2' : ∀ W, (Instr.slice 33 (.slice (some ⟨b, off, none⟩) gk cr) (some (.int .i64 ((x : Int) + 2))) none none).run Try.prog W = .ok (.slice A2 m cr2) W := fun W => by
              have := hs2 W
              rwa [show ((x + 2 : Nat) : Int) = (x : Int) + 2 by omega] at this
            have hcc : cr2 ≤ 9223372036854775807 := by
              have h5 := from_run (P := Try.prog) Try.underlying33 (size_of_info hti t1) (some ⟨b, off, none⟩) gk cr (x + 2) (by omega) w
              have h6 := hs2 w
              rw [h5] at h6
              injection h6 with h6 _
              injection h6 with _ _ h6
              omega
            have HR1 := Lib.hid (hr1.below HS1.out.below |>.more HS1.out.below.size)
            have HR2 : Hid (Rd w w.heap.size 1 A2 m ((t.drop (x + 1)).flatMap bcell)) := Lib.hid hr2
            have HM := Lib.hid hm
            obtain ⟨q, HQ⟩ : ∃ q, Hid (q = x + 1) := ⟨_, Lib.hid rfl⟩
            rw [← HQ.out] at hs1' HR1 HUN2 HR2
            have kb : q ≤ 128 := by have := HQ.out; omega
            have kb2 : no + q ≤ 4096 := by have := HQ.out; omega
            clear hs1 hs2 hr1 hr2 hm HUN
            go_upto_region 14 with ((at_builtin; refine wpList_append_sep HS1.out 0 rfl (.tmp 48) (.tmp 51) 33 rfl 5 ti (.int .u8 0) 1 1 Try.underlying33 hti t0 t1 t2 rfl (by omega) _ no _ rfl rfl _ _ q _ _ rfl HR1.out (by first | exact bcell_one _ | (simp [Value.oneCell'])) (by simp only [maxLen]; omega) (by omega) ?_; intro A6 c6 w6 hc6 hs6 H6'; have H6 := Lib.hid H6'; clear H6'))
            have HB : Hid (Sep w w6 [.row 5 1 (.slice A6 (no + q) c6) (no + q) ((out ++ t.take q).flatMap bcell)]) := Lib.hid (by rw [List.flatMap_append]; exact H6.out)
            clear H6 HS1 HR1
            go_wp2
            go_roundg m
            case measure => have := HM.out; omega
            case rel => exact ⟨A2, A6, m, cr2, no + q, c6, t.drop q, out ++ t.take q, rfl, rfl, rfl, hc2, hcc, hc6, by omega, Lib.hid (by rw [List.length_drop]; have := HM.out; have := HQ.out; omega), Lib.hid (by rw [List.length_append, HOL.out, List.length_take]; have := HM.out; have := HQ.out; omega), Lib.hid (fun z hz => HBY2.out z (List.mem_of_mem_drop hz)), HR2, HUN2, HB.out⟩
end Pr
end Go.Proofs.Ytakmfjnfkjdbfaa
