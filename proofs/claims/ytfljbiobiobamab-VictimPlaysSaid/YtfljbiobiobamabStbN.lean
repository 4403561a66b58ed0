/-
  Walk of slices.SortStableFunc at []int with the reference's comparison. Conditions: none beyond each theorem's own premises.
-/
import Derived.Test.YtfljbiobiobamabStbM
namespace Go.Proofs.Ytfljbiobiobamab
open Go.RowKit
set_option linter.unusedVariables false
namespace Vic

theorem sym_any (A B : Option Addr) (N c n cl gl : Nat) (l : List Fm) (J : List It) (w0 : World) (hE : Env w0 B n l) (hN : N ≤ 4096) : ∀ k, SymC w0 l A B N c n cl gl J k := by
  intro k
  induction k with
  | zero =>
    intro X U V Y a m b w ha hm hb hk hu hv
    omega
  | succ k IH =>
    intro X U V Y a m b w ha hm hb hk hu hv hU hV hC hxn hyn hl hs
    by_cases h1 : U.length = 1
    · obtain ⟨x, rfl⟩ := List.length_eq_one_iff.1 h1
      subst ha hm hb
      have h := sym_left A B N c n cl gl l X V Y x J w0 w hE hs hl hN hV (fun y hy => hC x (by simp) y hy) (hxn x (by simp)) hyn hv
      exact h
    · by_cases h2 : V.length = 1
      · obtain ⟨y, rfl⟩ := List.length_eq_one_iff.1 h2
        subst ha hm hb
        have h := sym_right A B N c n cl gl l X U Y y J w0 w hE hs hl hN hU (fun x hx => hC x hx y (by simp)) (hyn y (by simp)) hxn (by omega)
        exact h
      · exact sym_mid A B N c n cl gl l J w0 hE hN k IH X U V Y a m b w ha hm hb hk (by omega) (by omega) hU hV hC hxn hyn hl hs

/-- what a sort hands back -/
def SRet (w0 : World) (l : List Fm) (A B : Option Addr) (N c n cl gl : Nat) (d : List Nat) (J : List It) (e : Ending) (w' : World) : Prop :=
  e = .returned (.tuple #[]) ∧ ∃ t, Stb.Srt (leB l) t ∧ t.Perm d ∧ Sep w0 w' (sR A N c t :: boxI gl B n cl :: J)

set_option maxRecDepth 100000 in
set_option maxHeartbeats 6400000 in
theorem stable_any (A B : Option Addr) (N c n cl gl : Nat) (l : List Fm) (d : List Nat) (J : List It) (w0 w : World) (hE : Env w0 B n l) (hs : Sep w0 w (sR A N c d :: boxI gl B n cl :: J)) (hl : d.length = N) (hN : N ≤ 4096) (hd : d.Pairwise (Stb.Cnd (leB l) (qq l))) (hlt : ∀ x ∈ d, x < n) :
    Calls Try.prog 53 #[.slice A N c, .int .i64 (N : Int), cmpF gl] w (SRet w0 l A B N c n cl gl d J) := by
  have HE := Lib.hid hE
  have HS := Lib.hid hs
  have HD := Lib.hid hd
  have HL := Lib.hid hl
  have HLT := Lib.hid hlt
  clear hE hs hd hl hlt
  obtain ⟨F, hF⟩ : ∃ F, F = cmpF gl := ⟨_, rfl⟩
  rw [← hF]
  have HF := Lib.hid hF
  clear hF
  go_enter Try.func53, Try.ntmps53
  go_wp2
  go_loopg [7, 8] N (fun g va vb wr => ∃ (D R : List Nat), D.length ≤ N ∧ g = N - D.length ∧ va = .int .i64 (D.length : Int) ∧ vb = .int .i64 ((D.length + 20 : Nat) : Int) ∧ Hid ((D ++ R).Perm d) ∧ Hid (Stb.Upt (leB l) (qq l) 20 D R) ∧ Hid (R.Pairwise (Stb.Cnd (leB l) (qq l))) ∧ Sep w0 wr (sR A N c (D ++ R) :: boxI gl B n cl :: J))
  case atStart => exact ⟨[], d, Nat.zero_le _, rfl, rfl, rfl, Lib.hid (List.Perm.refl _), Lib.hid (Stb.Upt.start 20 d), HD, HS.out⟩
  case round =>
    clear HS HD
    obtain ⟨D, R, hDN, rfl, rfl, rfl, HP, HUP, HC, hs⟩ := hrel
    have HS := Lib.hid hs
    clear hs
    have hlen := HP.out.length_eq
    rw [HL.out, List.length_append] at hlen
    obtain ⟨a, ha⟩ : ∃ a, a = D.length := ⟨_, rfl⟩
    obtain ⟨b, hb⟩ : ∃ b, b = a + 20 := ⟨_, rfl⟩
    rw [← ha, ← hb]
    have ba : a ≤ 4096 := by omega
    have bb : b ≤ 8192 := by omega
    by_cases hbN : b ≤ N
    · obtain ⟨U, R2, rfl, hU⟩ := Stb.split_at R 20 (by omega)
      have hc := List.pairwise_append.1 HC.out
      have hl1 : (D ++ (U ++ R2)).length = N := by rw [List.length_append]; omega
      have cI := ins_any A B N c n cl gl l D U R2 J w0 wr HE.out HS.out hl1 hN hc.1 (fun x hx => HLT.out x (HP.out.mem_iff.1 (by simp [hx])))
      rw [← HF.out, hU, ← ha, ← hb] at cI
      have CI := Lib.hid cI
      obtain ⟨b2, hb2⟩ : ∃ b2, b2 = b + 20 := ⟨_, rfl⟩
      have kb : (b : Int) + 20 = (b2 : Int) := by omega
      have hm1 : N - b < N - D.length := by omega
      have HHC := Lib.hid hc
      have HHA := Lib.hid ha
      have HHB := Lib.hid hb
      have HHB2 := Lib.hid hb2
      have HHU := Lib.hid hU
      clear hlen cI hl1 hc hU hb2 ha hb
      go_wp2_with fail
      refine CI.out.mono ?_; rintro er w1 ⟨rfl, M, hM, hMP, hs1⟩
      have HS1 := Lib.hid hs1
      have HM := Lib.hid hM
      have HMP := Lib.hid hMP
      clear hs1 hM hMP CI
      go_wp2
      go_roundg (N - b)
      case measure => exact hm1
      case rel =>
        have e : (D ++ M).length = b := by rw [List.length_append, HMP.out.length_eq, HHU.out, HHB.out, HHA.out]
        refine ⟨D ++ M, R2, by omega, by rw [e], by rw [e], by rw [e, HHB2.out], Lib.hid ?_, Lib.hid (HUP.out.step HHU.out HMP.out HM.out HHC.out.2.2), Lib.hid HHC.out.2.1, ?_⟩
        · refine List.Perm.trans ?_ HP.out
          rw [List.append_assoc]
          exact List.Perm.append_left _ (HMP.out.append_right _)
        · have h := HS1.out
          rw [← List.append_assoc] at h
          exact h
    · have hl1 : (D ++ (R ++ [])).length = N := by rw [List.append_nil, List.length_append]; omega
      have cI := ins_any A B N c n cl gl l D R [] J w0 wr HE.out (by rw [List.append_nil]; exact HS.out) hl1 hN HC.out (fun x hx => HLT.out x (HP.out.mem_iff.1 (by simp [hx])))
      rw [← HF.out, hlen, ← ha] at cI
      have CI := Lib.hid cI
      have HRL : Hid (R.length ≤ 20) := Lib.hid (by omega)
      clear hlen cI hl1 ha hb
      go_wp2_with fail
      refine CI.out.mono ?_; rintro er w1 ⟨rfl, M, hM, hMP, hs1⟩
      have HS1 := Lib.hid hs1
      have HB0 := Lib.hid (HUP.out.fin HRL.out hMP hM)
      have HP1 : Hid ((D ++ M).Perm d) := Lib.hid ((hMP.append_left D).trans HP.out)
      rw [List.append_nil] at HS1
      clear hs1 hM hMP CI HUP HP HC HS HRL hbN bb ba hDN
      obtain ⟨cur, hcur⟩ : ∃ cur, cur = D ++ M := ⟨_, rfl⟩
      rw [← hcur] at HS1 HB0 HP1
      clear hcur
      go_wp2
      go_loopg [6] (N - 20) (fun g vbs wr => ∃ (bs : Nat) (cur : List Nat), 20 ≤ bs ∧ bs ≤ 8192 ∧ g = N - bs ∧ vbs = .int .i64 (bs : Int) ∧ Hid (cur.Perm d) ∧ Hid (Stb.Blks (leB l) (qq l) bs cur) ∧ Sep w0 wr (sR A N c cur :: boxI gl B n cl :: J))
      case atStart => exact ⟨20, cur, Nat.le_refl _, by omega, rfl, rfl, HP1, HB0, HS1.out⟩
      case round =>
        clear HS1 HB0 HP1 cur
        obtain ⟨bs, cur, hbs, hbs2, rfl, rfl, HP, HB, hs⟩ := hrel
        have HS := Lib.hid hs
        clear hs
        by_cases hbN : bs < N
        · obtain ⟨b2, hb2⟩ : ∃ b2, b2 = 2 * bs := ⟨_, rfl⟩
          have kb2 : 2 * (bs : Int) = (b2 : Int) := by omega
          have kb3 : (bs : Int) * 2 = (b2 : Int) := by omega
          have bb2 : b2 ≤ 8192 := by omega
          have HB2 := Lib.hid hb2
          have hb20 : 40 ≤ b2 := by omega
          have hmes : N - b2 < N - bs := by omega
          clear hb2
          go_wp2
          go_loopg [7, 8] N (fun g va vb wr => ∃ (D R : List Nat), D.length ≤ N ∧ g = N - D.length ∧ va = .int .i64 (D.length : Int) ∧ vb = .int .i64 ((D.length + b2 : Nat) : Int) ∧ Hid ((D ++ R).Perm d) ∧ Hid (Stb.Upt (leB l) (qq l) b2 D R) ∧ Hid (Stb.Blks (leB l) (qq l) bs R) ∧ Sep w0 wr (sR A N c (D ++ R) :: boxI gl B n cl :: J))
          case atStart => exact ⟨[], cur, Nat.zero_le _, rfl, rfl, by simp, HP, Lib.hid (Stb.Upt.start b2 cur), HB, HS.out⟩
          case round =>
            clear HS HB HP cur
            obtain ⟨D, R, hDN, rfl, rfl, rfl, HP, HUP, HB, hs⟩ := hrel
            have HS := Lib.hid hs
            clear hs
            have hlen := HP.out.length_eq
            rw [HL.out, List.length_append] at hlen
            obtain ⟨a, ha⟩ : ∃ a, a = D.length := ⟨_, rfl⟩
            obtain ⟨b, hb⟩ : ∃ b, b = a + b2 := ⟨_, rfl⟩
            obtain ⟨m, hm⟩ : ∃ m, m = a + bs := ⟨_, rfl⟩
            rw [← ha, ← hb]
            have km : (a : Int) + (bs : Int) = (m : Int) := by omega
            have ba : a ≤ 4096 := by omega
            have bb : b ≤ 16384 := by omega
            have bm : m ≤ 16384 := by omega
            have hB2 := HB2.out
            by_cases hbN2 : b ≤ N
            · obtain ⟨B1, R1, rfl, hB1, hS1, hR1, hC1⟩ := HB.out.head (by omega)
              rw [List.length_append] at hlen
              obtain ⟨V1, R2, rfl, hV1, hS2, hR2, hC2⟩ := hR1.head (by omega)
              have hl1 : (D ++ (B1 ++ (V1 ++ R2))).length = N := by simp only [List.length_append] at hlen ⊢; omega
              have cI := sym_any A B N c n cl gl l J w0 HE.out hN (B1.length + V1.length) D B1 V1 R2 a m b wr ha.symm (by omega) (by omega) (Nat.le_refl _) (by omega) (by omega) hS1 hS2 (fun x hx y hy => hC1 x hx y (List.mem_append_left _ hy)) (fun x hx => HLT.out x (HP.out.mem_iff.1 (by simp [hx]))) (fun x hx => HLT.out x (HP.out.mem_iff.1 (by simp [hx]))) hl1 HS.out
              rw [← HF.out] at cI
              have CI := Lib.hid cI
              obtain ⟨b3, hb3⟩ : ∃ b3, b3 = b + b2 := ⟨_, rfl⟩
              have kb : (b : Int) + (b2 : Int) = (b3 : Int) := by omega
              have hm1 : N - b < N - D.length := by omega
              have HUL : Hid ((B1 ++ V1).length = b2) := Lib.hid (by rw [List.length_append]; omega)
              have HCC : Hid (∀ x ∈ B1 ++ V1, ∀ y ∈ R2, Stb.Cnd (leB l) (qq l) x y) := Lib.hid (fun x hx y hy => by
                rcases List.mem_append.1 hx with hx | hx
                · exact hC1 x hx y (List.mem_append_right _ hy)
                · exact hC2 x hx y hy)
              have HR2 := Lib.hid hR2
              have HHA := Lib.hid ha
              have HHB := Lib.hid hb
              have HHB3 := Lib.hid hb3
              have HUP2 : Hid (Stb.Upt (leB l) (qq l) b2 D ((B1 ++ V1) ++ R2)) := Lib.hid (by rw [List.append_assoc]; exact HUP.out)
              clear hlen cI hl1 hb3 ha hb hm hB2 hB1 hS1 hC1 hV1 hS2 hC2 hR2 hR1 HUP HB
              go_wp2_with fail
              refine CI.out.mono ?_; rintro er w1 ⟨rfl, M, hM, hMP, hs1⟩
              have HS1 := Lib.hid hs1
              have HM := Lib.hid hM
              have HMP := Lib.hid hMP
              clear hs1 hM hMP CI
              go_wp2
              go_roundg (N - b)
              case measure => exact hm1
              case rel =>
                have e : (D ++ M).length = b := by rw [List.length_append, HMP.out.length_eq, HUL.out, HHB.out, HHA.out]
                refine ⟨D ++ M, R2, by omega, by rw [e], by rw [e], by rw [e, HHB3.out], Lib.hid ?_, Lib.hid (HUP2.out.step HUL.out HMP.out HM.out HCC.out), HR2, ?_⟩
                · refine List.Perm.trans ?_ HP.out
                  rw [List.append_assoc]
                  refine List.Perm.append_left _ ?_
                  rw [← List.append_assoc]
                  exact HMP.out.append_right _
                · have h := HS1.out
                  rw [← List.append_assoc] at h
                  exact h
            · by_cases hmN : m < N
              · obtain ⟨B1, R1, rfl, hB1, hS1, hR1, hC1⟩ := HB.out.head (by omega)
                rw [List.length_append] at hlen
                have hl1 : (D ++ (B1 ++ (R1 ++ []))).length = N := by simp only [List.length_append, List.length_nil]; omega
                have hS2 := hR1.small (by omega)
                have cI := sym_any A B N c n cl gl l J w0 HE.out hN (B1.length + R1.length) D B1 R1 [] a m N wr ha.symm (by omega) (by omega) (Nat.le_refl _) (by omega) (by omega) hS1 hS2 hC1 (fun x hx => HLT.out x (HP.out.mem_iff.1 (by simp [hx]))) (fun x hx => HLT.out x (HP.out.mem_iff.1 (by simp [hx]))) hl1 (by rw [List.append_nil]; exact HS.out)
                rw [← HF.out] at cI
                have CI := Lib.hid cI
                have HUL : Hid ((B1 ++ R1).length ≤ b2) := Lib.hid (by rw [List.length_append]; omega)
                clear hlen cI hl1 ha hb hm hB2 hB1 hS1 hC1 hS2 hR1 HB
                go_wp2_with fail
                refine CI.out.mono ?_; rintro er w1 ⟨rfl, M, hM, hMP, hs1⟩
                have HS1 := Lib.hid hs1
                have HB0 := Lib.hid (HUP.out.fin HUL.out hMP hM)
                have HP1 : Hid ((D ++ M).Perm d) := Lib.hid ((hMP.append_left D).trans HP.out)
                rw [List.append_nil] at HS1
                clear hs1 hM hMP CI HUP HP HS HUL hbN2
                go_wp2
                go_roundg (N - b2)
                case measure => exact hmes
                case rel => exact ⟨b2, D ++ M, by omega, bb2, rfl, rfl, HP1, HB0, HS1.out⟩
              · have hS2 := HB.out.small (by omega)
                have HB0 := Lib.hid (HUP.out.fin (show R.length ≤ b2 by omega) (List.Perm.refl _) hS2)
                clear hlen ha hb hm hB2 hS2 HB HUP
                go_wp2
                go_roundg (N - b2)
                case measure => exact hmes
                case rel => exact ⟨b2, D ++ R, by omega, bb2, rfl, rfl, HP, HB0, HS.out⟩
        · have hln := HP.out.length_eq
          rw [HL.out] at hln
          have HSR := Lib.hid (HB.out.small (by omega))
          clear hln HB
          go_wp2
          refine bodyPost_end (v := .tuple #[]) (by simp [results, Try.results53]) rfl ?_
          exact ⟨rfl, cur, HSR.out, HP.out, HS.out⟩

set_option maxRecDepth 100000 in
theorem sortStable_any (A B : Option Addr) (N c n cl gl : Nat) (l : List Fm) (d : List Nat) (J : List It) (w0 w : World) (hE : Env w0 B n l) (hs : Sep w0 w (sR A N c d :: boxI gl B n cl :: J)) (hl : d.length = N) (hN : N ≤ 4096) (hd : d.Pairwise (Stb.Cnd (leB l) (qq l))) (hlt : ∀ x ∈ d, x < n) :
    Calls Try.prog 37 #[.slice A N c, cmpF gl] w (SRet w0 l A B N c n cl gl d J) := by
  have CI := Lib.hid (stable_any A B N c n cl gl l d J w0 w hE hs hl hN hd hlt)
  obtain ⟨F, hF⟩ : ∃ F, F = cmpF gl := ⟨_, rfl⟩
  rw [← hF] at CI ⊢
  clear hF hE hs hl hd hlt
  go_enter Try.func37, Try.ntmps37
  go_wp2_with fail
  refine CI.out.mono ?_; rintro er w1 ⟨rfl, hx⟩
  have HX := Lib.hid hx
  clear hx CI
  go_wp2
  refine bodyPost_end (v := .tuple #[]) (by simp [results, Try.results37]) rfl ?_
  exact ⟨rfl, HX.out⟩
end Vic
end Go.Proofs.Ytfljbiobiobamab
