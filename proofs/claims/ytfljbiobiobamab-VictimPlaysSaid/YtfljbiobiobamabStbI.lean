/-
  Walk of the insertion sort inside the library's stable sort. Conditions: none beyond each theorem's own premises.
-/
import Derived.Test.YtfljbiobiobamabStbW
namespace Go.Proofs.Ytfljbiobiobamab
open Go.RowKit
set_option linter.unusedVariables false
namespace Vic

/-- the comparison as a value -/
def cmpF (gl : Nat) : Value := .func (.func 38) #[] #[.pointer (some ⟨gl, 0, none⟩)]
/-- the box that the comparison reads -/
def boxI (gl : Nat) (A : Option Addr) (n c : Nat) : It := .cells gl 28 [.slice A n c]
theorem nil_or_snoc (P : List Nat) : P = [] ∨ ∃ P' p, P = P' ++ [p] := by
  by_cases h : P = []
  · exact .inl h
  · exact .inr ⟨_, _, (List.dropLast_concat_getLast h).symm⟩
theorem ins_perm2 (P S U : List Nat) (x : Nat) : ((P ++ (x :: S)) ++ U).Perm ((P ++ S) ++ (x :: U)) := by
  have h := (List.perm_middle (a := x) (l₁ := P) (l₂ := S)).append_right U
  exact h.trans (List.perm_middle (a := x) (l₁ := P ++ S) (l₂ := U)).symm
theorem ins_state (X P S U Y : List Nat) (x : Nat) : Stb.InsL X P S (U ++ Y) x = X ++ ((P ++ (x :: S)) ++ (U ++ Y)) := by
  unfold Stb.InsL
  simp
theorem cmp_later {w0 w : World} {A B : Option Addr} {n cl gl : Nat} {l : List Fm} {X : It} {J : List It} (hE : Env w0 B n l) (hs : Sep w0 w (X :: boxI gl B n cl :: J)) (x y : Nat) (hx : x < n) (hy : y < n) (z : LaterOf w) :
    Calls Try.prog 38 #[.int .i64 (x : Int), .int .i64 (y : Int), .pointer (some ⟨gl, 0, none⟩)] z.w (Ret z.w (.int .i64 (cmpZ l x y))) :=
  have hs2 := hs.later z.h
  cmp_any B n cl gl l w0 z.w x y hE hs2.below (hs2.cell 1 rfl (k := 0) rfl) hx hy

set_option maxRecDepth 100000 in
set_option maxHeartbeats 6400000 in
theorem ins_any (A B : Option Addr) (N c n cl gl : Nat) (l : List Fm) (X U Y : List Nat) (J : List It) (w0 w : World) (hE : Env w0 B n l) (hs : Sep w0 w (sR A N c (X ++ (U ++ Y)) :: boxI gl B n cl :: J)) (hl : (X ++ (U ++ Y)).length = N) (hN : N ≤ 4096) (hU : U.Pairwise (Stb.Cnd (leB l) (qq l))) (hlt : ∀ x ∈ U, x < n) :
    Calls Try.prog 70 #[.slice A N c, .int .i64 (X.length : Int), .int .i64 ((X.length + U.length : Nat) : Int), cmpF gl] w (fun e w' => e = .returned (.tuple #[]) ∧ ∃ M, Stb.Srt (leB l) M ∧ M.Perm U ∧ Sep w0 w' (sR A N c (X ++ (M ++ Y)) :: boxI gl B n cl :: J)) := by
  have eg : ∀ args w, (callFunc 38 args).run Try.prog w = .ok (.enter 38 args) w := enters_of Try.func38 (by kernel_rfl) rfl
  have HE := Lib.hid hE
  have HS := Lib.hid hs
  have HU := Lib.hid hU
  have HLT := Lib.hid hlt
  have hl2 : X.length + U.length ≤ N := by rw [← hl]; simp only [List.length_append]; omega
  have HL := Lib.hid hl
  clear hE hs hU hlt hl
  obtain ⟨a, ha⟩ : ∃ a, a = X.length := ⟨_, rfl⟩
  obtain ⟨b, hb⟩ : ∃ b, b = X.length + U.length := ⟨_, rfl⟩
  rw [← hb, ← ha]
  have HA := Lib.hid ha
  have HBB := Lib.hid hb
  have hbN : b ≤ N := by omega
  clear ha hb hl2
  unfold cmpF
  go_enter Try.func70, Try.ntmps70
  have ha4 : a ≤ 4096 := by have := HA.out; have := HBB.out; omega
  go_wp2
  go_loopg [8] (b - (a + 1)) (fun g vi wr => ∃ (i : Nat) (M1 U2 : List Nat), a + 1 ≤ i ∧ i ≤ a + 1 + b ∧ g = b - i ∧ vi = .int .i64 i ∧ Hid (i = a + M1.length ∨ (U2 = [] ∧ b ≤ i)) ∧ Hid (M1.length + U2.length = U.length) ∧ Hid (Stb.Srt (leB l) M1) ∧ Hid ((M1 ++ U2).Perm U) ∧ Hid ((∀ x ∈ M1, ∀ y ∈ U2, Stb.Cnd (leB l) (qq l) x y) ∧ U2.Pairwise (Stb.Cnd (leB l) (qq l))) ∧ Sep w0 wr (sR A N c (X ++ (M1 ++ (U2 ++ Y))) :: boxI gl B n cl :: J))
  case atStart =>
    cases U with
    | nil => exact ⟨a + 1, [], [], Nat.le_refl _, by omega, rfl, by go_num, Lib.hid (.inr ⟨rfl, by have h1 := HA.out; have h2 := HBB.out; simp at h2; omega⟩), Lib.hid rfl, Lib.hid List.Pairwise.nil, Lib.hid (List.Perm.refl _), Lib.hid ⟨by simp, List.Pairwise.nil⟩, HS.out⟩
    | cons u U => exact ⟨a + 1, [u], U, Nat.le_refl _, by omega, rfl, by go_num, Lib.hid (.inl rfl), Lib.hid (by simp; omega), Lib.hid (List.pairwise_singleton _ _), Lib.hid (List.Perm.refl _), Lib.hid ⟨fun x hx y hy => by rw [List.mem_singleton] at hx; subst hx; exact (List.pairwise_cons.1 HU.out).1 y hy, (List.pairwise_cons.1 HU.out).2⟩, HS.out⟩
  case round =>
    clear HS HU
    obtain ⟨i, M1, U2, hi1, hi2, rfl, rfl, HI, HLN, HM, HP, HC, hs⟩ := hrel
    have HS := Lib.hid hs
    clear hs
    by_cases hib : i < b
    · obtain ⟨x, U3, rfl⟩ : ∃ x U3, U2 = x :: U3 := by
        cases U2 with
        | nil =>
          have h1 := HI.out; have h2 := HLN.out; have h3 := HBB.out; have h4 := HA.out
          simp at h1 h2
          omega
        | cons x U3 => exact ⟨x, U3, rfl⟩
      have hiM : i = a + M1.length := by
        rcases HI.out with h | ⟨h, _⟩
        · exact h
        · cases h
      have HIM := Lib.hid hiM
      have hall : ∀ y ∈ M1 ++ (x :: U3), y < n := fun y hy => HLT.out y (HP.out.mem_iff.1 hy)
      have HALL := Lib.hid hall
      have hxn : x < n := hall x (by simp)
      clear hiM hall HI
      go_wp2
      go_loopg [9] i (fun g vj wl => ∃ (P S : List Nat), a ≤ g ∧ g ≤ i ∧ vj = .int .i64 (g : Int) ∧ Hid (X.length + P.length = g) ∧ Hid (P ++ S = M1) ∧ Hid (Stb.InsOk (leB l) (qq l) P S x) ∧ Sep w0 wl (sR A N c (Stb.InsL X P S (U3 ++ Y) x) :: boxI gl B n cl :: J))
      case atStart => exact ⟨M1, [], by omega, Nat.le_refl _, rfl, Lib.hid (by have := HIM.out; have := HA.out; omega), Lib.hid (List.append_nil _), Lib.hid ⟨by rw [List.append_nil]; exact HM.out, by simp, fun y hy => HC.out.1 y (by simpa using hy) x (by simp)⟩, by
        have h := HS.out
        unfold Stb.InsL
        simpa using h⟩
      case round =>
        clear HS
        obtain ⟨P, S, hj1, hj2, rfl, HJ, HPS, HOK, hs⟩ := hrel
        have HS := Lib.hid hs
        clear hs
        have hL := HL.out
        have hHJ := HJ.out
        have hIM := HIM.out
        have hHA := HA.out
        have hlen : (P ++ S).length = M1.length := by rw [HPS.out]
        simp only [List.length_append] at hL hlen
        rcases nil_or_snoc P with rfl | ⟨P', p, rfl⟩
        · obtain rfl : a = gk := by simp at hHJ; omega
          have hst := HOK.out.stop (le_ord l) (.inl rfl)
          clear hL hHJ hIM hHA hlen
          go_upto_region 4 with (fail)
          refine wp_region_later (by kernel_rfl) (by kernel_rfl) ?_
          repeat (go_big_quiet_step (fail))
          refine wpQuiet_nil ?_; intro xw hw'; obtain ⟨xq, hw''⟩ := hw'; obtain ⟨xw0, xh⟩ := xq; change xw = xw0 at hw''; subst hw''
          have HST := Lib.hid hst
          have HSx := Lib.hid (HS.out.later xh)
          clear hst HS xh
          go_wp2
          go_roundg (b - (i + 1))
          case measure => omega
          case rel =>
            refine ⟨i + 1, [] ++ (x :: S), U3, by omega, by omega, rfl, by go_num, Lib.hid (.inl ?_), Lib.hid ?_, HST, Lib.hid ((ins_perm2 _ _ _ _).trans ?_), Lib.hid ⟨?_, ?_⟩, ?_⟩
            · have h1 := HIM.out
              have h2 : ([] ++ S).length = M1.length := by rw [HPS.out]
              simp only [List.length_append, List.length_cons] at h2 ⊢
              omega
            · have h1 := HLN.out
              have h2 : ([] ++ S).length = M1.length := by rw [HPS.out]
              simp only [List.length_append, List.length_cons] at h1 h2 ⊢
              omega
            · rw [HPS.out]; exact HP.out
            · intro y hy z hz
              rcases List.mem_append.1 hy with hy | hy
              · exact HC.out.1 y (by rw [← HPS.out]; exact List.mem_append_left _ hy) z (List.mem_cons_of_mem _ hz)
              · rcases List.mem_cons.1 hy with rfl | hy
                · exact (List.pairwise_cons.1 HC.out.2).1 z hz
                · exact HC.out.1 y (by rw [← HPS.out]; exact List.mem_append_right _ hy) z (List.mem_cons_of_mem _ hz)
            · exact (List.pairwise_cons.1 HC.out.2).2
            · have h := HSx.out
              rw [ins_state] at h
              exact h
        · simp only [List.length_append, List.length_singleton] at hHJ hlen
          obtain ⟨m, hm⟩ : ∃ m, m + 1 = gk := ⟨X.length + P'.length, by omega⟩
          have hpn : p < n := HALL.out p (by rw [← HPS.out]; simp)
          have hmN : gk < N := by have h1 := HBB.out; have h2 := HLN.out; omega
          have hjx : X.length + (P' ++ [p]).length = gk := by simp only [List.length_append, List.length_singleton]; omega
          have px := ncell_at (Stb.ins_now X (P' ++ [p]) S (U3 ++ Y) x hjx)
          have pp := ncell_at (Stb.ins_pre X P' S (U3 ++ Y) x p hjx)
          rw [show gk - 1 = m by omega] at pp
          have HPX := Lib.hid px
          have HPP := Lib.hid pp
          obtain ⟨g6, rfl, _, hat⟩ := HS.out.rowAt 0 rfl (by omega)
          have d0 := fun z : LaterOf wr => z.cell ((hat _).1 _ px)
          have e0 := fun z : LaterOf wr => z.cell ((hat _).1 _ pp)
          have i0 : (0 : Int) ≤ (m : Int) := by omega
          have i1 : (m : Int) < (N : Int) := by omega
          have i2 : (a : Int) < (gk : Int) := by omega
          have i3 : (gk : Int) - 1 = (m : Int) := by omega
          have i4 : (gk : Int) < (N : Int) := by omega
          have ham : a ≤ m := by omega
          have hmg : m < gk := by omega
          have cC := Lib.hid (cmp_later (A := B) HE.out HS.out x p hxn hpn)
          obtain ⟨rz, hrz⟩ : ∃ rz, rz = cmpZ l x p := ⟨_, rfl⟩
          rw [← hrz] at cC
          have HRZ := Lib.hid hrz
          have hmi : m ≤ i := by omega
          clear hat hL hIM hHA hlen px pp hrz hHJ
          by_cases hq : rz < 0
          · have hqq : qq l x p = true := by unfold qq; rw [← HRZ.out]; exact decide_eq_true hq
            have HOK2 := Lib.hid (HOK.out.left (le_ord l) hqq)
            have HM1 := Lib.hid hm
            clear hm
            go_upto_region 4 with (fail)
            refine wp_region_later (by kernel_rfl) (by kernel_rfl) ?_
            repeat (go_big_quiet_step (with_reducible exact Calls.later (cC.out _)))
            refine wpQuiet_nil ?_; intro xw hw'; obtain ⟨xq, hw''⟩ := hw'; obtain ⟨xw0, xh⟩ := xq; change xw = xw0 at hw''; subst hw''
            clear d0 e0 cC HOK hqq
            have HSx := HS.out.later xh
            clear HS xh
            obtain ⟨g', hg', _, hat⟩ := HSx.rowAt 0 rfl (by omega)
            cases hg'
            have d0 := (hat _).1 _ HPX.out
            have e0 := (hat _).1 _ HPP.out
            have u0 := (hat gk).2.1
            have u1 := (hat m).2.1
            have K1 := (hat gk).2.2 (.int .i64 (p : Int))
            obtain ⟨g', hg', _, hat2⟩ := K1.rowAt 0 rfl (by omega)
            cases hg'
            have K2 := (hat2 m).2.2 (.int .i64 (x : Int))
            rw [ncell_set, ncell_set] at K2
            have hsw := Stb.ins_swap X P' S (U3 ++ Y) x p hjx
            rw [show gk - 1 = m by have := HM1.out; omega] at hsw
            rw [hsw] at K2
            have K := Lib.hid K2
            have HJ2 : Hid (X.length + P'.length = m) := Lib.hid (by simp only [List.length_append, List.length_singleton] at hjx; have := HM1.out; omega)
            have HPS2 : Hid (P' ++ (p :: S) = M1) := Lib.hid (by rw [← HPS.out]; simp)
            clear hat hat2 K1 K2 hsw HSx hjx HJ HPS HPX HPP
            go_upto_region 6 with (fail)
            go_region
            all_goals
              go_wp2
              go_roundg m
              case measure => exact hmg
              case rel => exact ⟨P', p :: S, ham, hmi, rfl, HJ2, HPS2, HOK2, K.out.drew⟩
          · have hqq : qq l x p = false := by unfold qq; rw [← HRZ.out]; exact decide_eq_false hq
            have hst := HOK.out.stop (le_ord l) (.inr ⟨P', p, rfl, hqq⟩)
            clear hqq hjx hm
            go_upto_region 4 with (fail)
            refine wp_region_later (by kernel_rfl) (by kernel_rfl) ?_
            repeat (go_big_quiet_step (with_reducible exact Calls.later (cC.out _)))
            refine wpQuiet_nil ?_; intro xw hw'; obtain ⟨xq, hw''⟩ := hw'; obtain ⟨xw0, xh⟩ := xq; change xw = xw0 at hw''; subst hw''
            clear d0 e0 cC
            have HST := Lib.hid hst
            have HSx := Lib.hid (HS.out.later xh)
            clear hst HS xh
            go_wp2
            go_roundg (b - (i + 1))
            case measure => omega
            case rel =>
              refine ⟨i + 1, (P' ++ [p]) ++ (x :: S), U3, by omega, by omega, rfl, by go_num, Lib.hid (.inl ?_), Lib.hid ?_, HST, Lib.hid ((ins_perm2 _ _ _ _).trans ?_), Lib.hid ⟨?_, ?_⟩, ?_⟩
              · have h1 := HIM.out
                have h2 : ((P' ++ [p]) ++ S).length = M1.length := by rw [HPS.out]
                simp only [List.length_append, List.length_cons] at h2 ⊢
                omega
              · have h1 := HLN.out
                have h2 : ((P' ++ [p]) ++ S).length = M1.length := by rw [HPS.out]
                simp only [List.length_append, List.length_cons] at h1 h2 ⊢
                omega
              · rw [HPS.out]; exact HP.out
              · intro y hy z hz
                rcases List.mem_append.1 hy with hy | hy
                · exact HC.out.1 y (by rw [← HPS.out]; exact List.mem_append_left _ hy) z (List.mem_cons_of_mem _ hz)
                · rcases List.mem_cons.1 hy with rfl | hy
                  · exact (List.pairwise_cons.1 HC.out.2).1 z hz
                  · exact HC.out.1 y (by rw [← HPS.out]; exact List.mem_append_right _ hy) z (List.mem_cons_of_mem _ hz)
              · exact (List.pairwise_cons.1 HC.out.2).2
              · have h := HSx.out
                rw [ins_state] at h
                exact h
    · have hU2 : U2 = [] := by
        rcases HI.out with h | ⟨h, _⟩
        · have h2 := HLN.out; have h3 := HBB.out; have h4 := HA.out
          exact List.eq_nil_of_length_eq_zero (by omega)
        · exact h
      subst hU2
      have HP2 : Hid (M1.Perm U) := Lib.hid (by have h := HP.out; rwa [List.append_nil] at h)
      clear HI HLN HC HP
      go_wp2
      refine bodyPost_end (v := .tuple #[]) (by simp [results, Try.results70]) rfl ?_
      exact ⟨rfl, M1, HM.out, HP2.out, HS.out⟩
end Vic
end Go.Proofs.Ytfljbiobiobamab
