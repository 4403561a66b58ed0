/-
  Walk of the reference's VPack. Conditions: none.
-/
import Derived.Test.YtakmfjnfkjdbfaaPrW2
import Derived.Test.YtakmfjnfkjdbfaaInv
import Derived.Test.YtakmfjnfkjdbfaaHead
namespace Go.Proofs.Ytakmfjnfkjdbfaa
open Go.RowKit
set_option linter.unusedVariables false
namespace Pr

set_option maxRecDepth 100000 in
set_option maxHeartbeats 1600000 in
theorem flush_none (gp go no c4 np c5 : Nat) (A4 A5 : Option Addr) (out : List Nat) (w0 w : World) (H : Sep w0 w [.cells gp 33 [.slice A5 0 c5], .cells go 33 [.slice A4 no c4], .row 5 1 (.slice A4 no c4) no (out.flatMap bcell), .row 5 1 (.slice A5 0 c5) 0 []]) :
    Calls Try.prog 43 #[.pointer (some ⟨gp, 0, none⟩), .pointer (some ⟨go, 0, none⟩)] w (fun e w' => e = .returned (.tuple #[]) ∧ Sep w0 w' [.cells gp 33 [.slice A5 0 c5], .cells go 33 [.slice A4 no c4], .row 5 1 (.slice A4 no c4) no (out.flatMap bcell), .row 5 1 (.slice A5 0 c5) 0 []]) := by
  have HS := Lib.hid H
  have d0 := H.cell 0 rfl (k := 0) rfl
  clear H
  go_enter Try.func43, Try.ntmps43
  go_wp2
  go_end0
  exact ⟨rfl, HS.out⟩
set_option maxRecDepth 100000 in
set_option maxHeartbeats 1600000 in
theorem flush_some (gp go no c4 np c5 : Nat) (A4 A5 : Option Addr) (out p : List Nat) (w0 w : World) (H : Sep w0 w [.cells gp 33 [.slice A5 np c5], .cells go 33 [.slice A4 no c4], .row 5 1 (.slice A4 no c4) no (out.flatMap bcell), .row 5 1 (.slice A5 np c5) np (p.flatMap bcell)]) (hp : p.length = np) (hp0 : 0 < np) (hp8 : np ≤ 128) (hno : no ≤ 20000) :
    Calls Try.prog 43 #[.pointer (some ⟨gp, 0, none⟩), .pointer (some ⟨go, 0, none⟩)] w (fun e w' => e = .returned (.tuple #[]) ∧ ∃ A' c', no + 1 + np ≤ c' ∧ Sep w0 w' [.cells gp 33 [.slice none 0 0], .cells go 33 [.slice A' (no + 1 + np) c'], .row 5 1 (.slice A' (no + 1 + np) c') (no + 1 + np) ((out ++ fl p).flatMap bcell), .row 5 1 (.slice none 0 0) 0 []]) := by
  obtain ⟨ti, hti, t0, t1, t2⟩ := info_parts byte_info'
  have HS := Lib.hid H
  have d0 := H.cell 0 rfl (k := 0) rfl
  have d1 := H.cell 1 rfl (k := 0) rfl
  have HP := Lib.hid hp
  obtain ⟨h, HH⟩ : ∃ h : Nat, Hid (np = h + 1) := ⟨np - 1, Lib.hid (by omega)⟩
  have kh : (np : Int) - 1 = (h : Int) := by rw [HH.out]; omega
  have kb : h ≤ 127 := by have := HH.out; omega
  have i0 : (0 : Int) < (np : Int) := by omega
  clear H hp
  have hnew := Lib.hid (Rd.of_own (own_new w 5 #[.int .u8 (h : Int)] 1 1 rfl (by simp [maxLen]) (Nat.le_refl _)))
  go_enter Try.func43, Try.ntmps43
  go_upto_region 1 with (fail)
  clear i0
  go_upto_region 2 with ((at_builtin; refine wpList_append_sep (HS.out.alloc _) 2 rfl (.tmp 5) (.tmp 10) 33 rfl 5 ti (.int .u8 0) 1 1 Try.underlying33 hti t0 t1 t2 rfl (by omega) _ no _ rfl rfl _ _ 1 _ _ rfl hnew.out (by first | exact bcell_one _ | (simp [Value.oneCell'])) (by simp only [maxLen]; omega) (by omega) ?_; intro A6 c6 w6 hc6 hs6 H6'; have H6 := Lib.hid H6'; clear H6'; have s0 := H6.out.cell 1 rfl (k := 0) rfl; have s1 := H6.out.froz 1 rfl (k := 0)))
  have HB : Hid (Sep w0 (w6.setCell ⟨go, 0, none⟩ (.slice A6 (no + 1) c6)) [.cells gp 33 [.slice A5 np c5], .cells go 33 [.slice A6 (no + 1) c6], .row 5 1 (.slice A6 (no + 1) c6) (no + 1) ((out ++ [h]).flatMap bcell), .row 5 1 (.slice A5 np c5) np (p.flatMap bcell)]) := Lib.hid (by rw [List.flatMap_append]; exact H6.out.set 1 rfl (k := 0) (.slice A6 (no + 1) c6))
  clear H6 hs6 s0 s1 hnew HS d0 d1 hc6
  generalize w6.setCell ⟨go, 0, none⟩ (.slice A6 (no + 1) c6) = w7 at HB ⊢
  generalize hno1 : no + 1 = no1 at *
  have d0 := HB.out.cell 0 rfl (k := 0) rfl
  have d1 := HB.out.cell 1 rfl (k := 0) rfl
  have HRT := Lib.hid (HB.out.rd 3 rfl)
  go_upto_region 3 with ((at_builtin; refine wpList_append_sep HB.out 2 rfl (.tmp 12) (.tmp 13) 33 rfl 5 ti (.int .u8 0) 1 1 Try.underlying33 hti t0 t1 t2 rfl (by omega) _ no1 _ rfl rfl _ _ np _ _ rfl HRT.out (by first | exact bcell_one _ | (simp [Value.oneCell'])) (by simp only [maxLen]; omega) (by omega) ?_; intro A6 c6 w6 hc6 hs6 H6'; have H6 := Lib.hid H6'; clear H6'; have s0 := H6.out.cell 1 rfl (k := 0) rfl; have s1 := H6.out.froz 1 rfl (k := 0)))
  have hfl : Hid (h :: p = fl p) := Lib.hid (by
    unfold fl
    rw [if_neg (by intro h0; rw [h0] at HP; have := HP.out; simp at this; omega), HP.out, HH.out]
    rfl)
  have HB2 : Hid (Sep w0 (w6.setCell ⟨go, 0, none⟩ (.slice A6 (no1 + np) c6)) [.cells gp 33 [.slice A5 np c5], .cells go 33 [.slice A6 (no1 + np) c6], .row 5 1 (.slice A6 (no1 + np) c6) (no1 + np) ((out ++ fl p).flatMap bcell), .row 5 1 (.slice A5 np c5) np (p.flatMap bcell)]) := Lib.hid (by
    rw [← hfl.out]
    have := H6.out.set 1 rfl (k := 0) (.slice A6 (no1 + np) c6)
    rw [← List.flatMap_append] at this
    simpa using this)
  clear H6 hs6 s0 s1 HB d0 d1 HRT hfl
  generalize w6.setCell ⟨go, 0, none⟩ (.slice A6 (no1 + np) c6) = w8 at HB2 ⊢
  have e0 := HB2.out.cell 0 rfl (k := 0) rfl
  have u0 := HB2.out.froz 0 rfl (k := 0)
  have HE := Lib.hid (((HB2.out.set 0 rfl (k := 0) (.slice none 0 0)).pick [0, 1, 2] (by decide) (by simp)).nilRow 5 1 none)
  go_wp2
  go_end0
  subst hno1
  exact ⟨rfl, A6, c6, by omega, HE.out⟩

theorem flush_any (gp go no c4 np c5 : Nat) (A4 A5 : Option Addr) (out p : List Nat) (w0 w : World) (H : Sep w0 w [.cells gp 33 [.slice A5 np c5], .cells go 33 [.slice A4 no c4], .row 5 1 (.slice A4 no c4) no (out.flatMap bcell), .row 5 1 (.slice A5 np c5) np (p.flatMap bcell)]) (hp : p.length = np) (hnil : np = 0 → A5 = none ∧ c5 = 0) (hp8 : np ≤ 128) (hno : no ≤ 20000) (hc4 : no ≤ c4) (ho : out.length = no) :
    Calls Try.prog 43 #[.pointer (some ⟨gp, 0, none⟩), .pointer (some ⟨go, 0, none⟩)] w (fun e w' => e = .returned (.tuple #[]) ∧ ∃ A' no' c', no' ≤ c' ∧ (out ++ fl p).length = no' ∧ Sep w0 w' [.cells gp 33 [.slice none 0 0], .cells go 33 [.slice A' no' c'], .row 5 1 (.slice A' no' c') no' ((out ++ fl p).flatMap bcell), .row 5 1 (.slice none 0 0) 0 []]) := by
  rcases Nat.eq_zero_or_pos np with h0 | h0
  · obtain ⟨rfl, rfl⟩ := hnil h0
    subst h0
    obtain rfl : p = [] := List.eq_nil_of_length_eq_zero hp
    refine (flush_none gp go no c4 0 0 A4 none out w0 w H).mono ?_
    rintro e w' ⟨he, hs⟩
    exact ⟨he, A4, no, c4, hc4, by simpa [fl] using ho, by simpa [fl] using hs⟩
  · refine (flush_some gp go no c4 np c5 A4 A5 out p w0 w H hp h0 hp8 hno).mono ?_
    rintro e w' ⟨he, A', c', hc', hs⟩
    exact ⟨he, A', no + 1 + np, c', hc', by
      have hl : (fl p).length = np + 1 := by
        unfold fl
        rw [if_neg (by intro h1; rw [h1] at hp; simp at hp; omega), List.length_cons, hp]
      rw [List.length_append, hl, ho]
      omega, hs⟩

set_option maxRecDepth 100000 in
set_option maxHeartbeats 800000 in
theorem vpack_out (A : Option Addr) (n c : Nat) (w : World) (hn : 4096 < n) : Calls Try.prog 17 #[.slice A n c] w (BytesRet w [] 2) := by
  have h1 : (4096 : Int) < (n : Int) := by omega
  go_enter Try.func17, Try.ntmps17
  go_wp2
  refine bodyPost_ret (v := .tuple #[.slice none 0 0, .int .i64 2]) (by simp [results, Try.results17]) rfl ?_
  exact ⟨none, 0, Nat.le_refl _, rfl, (Sep.nil_ w).nilRow 5 1 none⟩

set_option maxRecDepth 100000 in
set_option maxHeartbeats 6400000 in
theorem vpack_any (A : Option Addr) (n c : Nat) (l o : List Nat) (w : World) (hr : Rd w w.heap.size 1 A n (l.flatMap bcell)) (hl : l.length = n) (hn : n ≤ 4096) (hp : Pk [] l o) :
    Calls Try.prog 17 #[.slice A n c] w (BytesRet w o 0) := by
  obtain ⟨ti, hti, t0, t1, t2⟩ := info_parts byte_info'
  have HR := Lib.hid hr
  have HL := Lib.hid hl
  have HP := Lib.hid hp
  have n1 : ¬ (4096 : Int) < (n : Int) := by omega
  have eg := enters_of Try.func43 (by kernel_rfl) rfl
  clear hr hl hp
  have S1 : Hid (Sep w ((w.alloc (.cells #[.slice none 0 0] 33)).alloc (.cells #[.slice none 0 0] 33)) [.cells (w.heap.size + 1) 33 [.slice none 0 0], .cells w.heap.size 33 [.slice none 0 0], .row 5 1 (.slice none 0 0) 0 (([] : List Nat).flatMap bcell), .row 5 1 (.slice none 0 0) 0 (([] : List Nat).flatMap bcell)]) := Lib.hid (by
    have := (((((Sep.nil_ w).new 33 [.slice none 0 0]).new 33 [.slice none 0 0]).nilRow 5 1 none).nilRow 5 1 none).pick [1, 0, 2, 3] (by decide) (by simp)
    simpa [pickL] using this)
  go_enter Try.func17, Try.ntmps17
  go_upto_region 4 with (fail)
  generalize ((w.alloc (.cells #[.slice none 0 0] 33)).alloc (.cells #[.slice none 0 0] 33)) = w1 at S1 ⊢
  generalize w.heap.size + 1 = gp at S1 ⊢
  generalize hgo : w.heap.size = go at S1 ⊢
  go_wp2
  go_loopg [7] (n + 1) (fun q v7 wr => ∃ (a no c4 np c5 : Nat) (A4 A5 : Option Addr) (out p o1 : List Nat), a ≤ n ∧ v7 = .int .i64 a ∧ q = n + 1 - a ∧ no ≤ c4 ∧ np < 128 ∧ no + 2 * np ≤ 2 * a ∧ Hid (out.length = no) ∧ Hid (p.length = np) ∧ Hid (np = 0 → A5 = none ∧ c5 = 0) ∧ Hid (Pk p (l.drop a) o1) ∧ Hid (o = out ++ o1) ∧ Sep w wr [.cells gp 33 [.slice A5 np c5], .cells go 33 [.slice A4 no c4], .row 5 1 (.slice A4 no c4) no (out.flatMap bcell), .row 5 1 (.slice A5 np c5) np (p.flatMap bcell)])
  case atStart => exact ⟨0, 0, 0, 0, 0, none, none, [], [], o, Nat.zero_le _, rfl, rfl, Nat.le_refl _, by omega, by omega, Lib.hid rfl, Lib.hid rfl, Lib.hid (fun _ => ⟨rfl, rfl⟩), HP, Lib.hid rfl, S1.out⟩
  case round =>
    clear S1 HP
    obtain ⟨a, no, c4, np, c5, A4, A5, out, p, o1, ha, rfl, rfl, hc4, hnp, hbd, HOL, HPL, HNIL, HPK, HO, hs⟩ := hrel
    have HS := Lib.hid hs
    clear hs
    by_cases hlt : a < n
    · have i1 : (a : Int) < (n : Int) := by omega
      have i0 : (0 : Int) ≤ (a : Int) := by omega
      obtain ⟨x, t, hd⟩ : ∃ x t, l.drop a = x :: t := by
        cases h : l.drop a with
        | nil =>
          have := congrArg List.length h
          rw [List.length_drop, HL.out] at this
          simp at this
          omega
        | cons x t => exact ⟨x, t, rfl⟩
      have hla : l[a]? = some x := by
        have := congrArg (fun l => l[0]?) hd
        simpa using this
      obtain ⟨b, off, rfl, hb, hc⟩ := HR.out.at_ bcell_len (by omega)
      have HBX : Hid (w.cell? ⟨b, off + a, none⟩ = some (.int .u8 (x : Int))) := Lib.hid (byte_at hb (Below.refl _ _) hc hla)
      have cV := Lib.hid (vlong_any (some ⟨b, off, none⟩) n c a x t l wr (HR.out.below HS.out.below |>.more HS.out.below.size) HL.out hn hd)
      obtain ⟨r1, r2, _, _⟩ := runL_is x t
      have r0 := runL_pos x t
      have hlen := congrArg List.length hd
      rw [List.length_drop, HL.out, List.length_cons] at hlen
      have HPK2 : Hid (Pk p (x :: t) o1) := Lib.hid (by rw [← hd]; exact HPK.out)
      have HD1 : Hid (∀ k, l.drop (a + k) = (x :: t).drop k) := Lib.hid (fun k => by rw [← List.drop_drop, hd])
      have HLEN := Lib.hid hlen
      clear hc hla HPK hd hlen
      by_cases h3 : 3 ≤ runL (x :: t)
      · obtain ⟨o2, HO2, HP2⟩ : ∃ o2, Hid (o1 = fl p ++ (runL (x :: t) + 127) :: x :: o2) ∧ Hid (Pk [] ((x :: t).drop (runL (x :: t))) o2) := by
          have h1 := HPK2.out
          cases h1 with
          | run h4 h5 => exact ⟨_, Lib.hid rfl, Lib.hid h5⟩
          | plain h4 _ _ => omega
          | full h4 _ _ => omega
        clear HPK2
        generalize hrr : runL (x :: t) = r at *
        have j1 : (2 : Int) < (r : Int) := by omega
        have HRB : Hid (r ≤ n - a) := Lib.hid (by have := HLEN.out; omega)
        clear hrr
        go_wp2_with fail
        refine cV.out.mono ?_; rintro en w2 ⟨rfl, hb2⟩
        have HS2 := Lib.hid (HS.out.later hb2)
        clear hb2 HS cV
        have cF := Lib.hid (flush_any gp go no c4 np c5 A4 A5 out p w w2 HS2.out HPL.out HNIL.out (by omega) (by omega) hc4 HOL.out)
        go_wp2_with fail
        refine cF.out.mono ?_; rintro en w3 ⟨rfl, A6, no6, c6, hc6, hol6, hs6⟩
        have HOL6 := Lib.hid hol6
        have HS3 := Lib.hid hs6
        have hbn : no6 ≤ no + 1 + np := by
          have h1 : (fl p).length ≤ p.length + 1 := by unfold fl; split <;> simp
          rw [← hol6, List.length_append, HOL.out]
          have := HPL.out
          omega
        have hbn2 : np = 0 → no6 ≤ no := fun h0 => by
          have h1 : p = [] := List.eq_nil_of_length_eq_zero (by rw [HPL.out]; exact h0)
          rw [← hol6, h1, List.length_append, HOL.out]
          simp [fl]
        clear hol6 hs6 HS2 cF
        obtain ⟨q, HQ⟩ : ∃ q : Nat, Hid (q = r + 127) := ⟨_, Lib.hid rfl⟩
        have kq : (r : Int) + 127 = (q : Int) := by rw [HQ.out]; omega
        have kb : q ≤ 255 := by have := HQ.out; omega
        have kw1 : IntKind.i64.wrap (q : Int) = (q : Int) := by rw [IntKind.wrap_i64]; omega
        have kw2 : IntKind.u8.wrap (q : Int) = (q : Int) := by rw [IntKind.wrap_u8]; omega
        have HO6 : Hid (o = (out ++ fl p) ++ q :: x :: o2) := Lib.hid (by rw [HO.out, HO2.out, HQ.out, List.append_assoc])
        have hbd6 : no6 ≤ 2 * a := by
          rcases Nat.eq_zero_or_pos np with h0 | h0
          · have := hbn2 h0; omega
          · omega
        clear HO HO2 HOL HPL HNIL hbn hbn2 hbd hc4 hnp
        generalize out ++ fl p = out6 at *
        have HS : Hid (Sep w w3 [.cells gp 33 [.slice none 0 0], .cells go 33 [.slice A6 no6 c6], .row 5 1 (.slice A6 no6 c6) no6 (out6.flatMap bcell)]) := Lib.hid (HS3.out.pick [0, 1, 2] (by decide) (by simp))
        clear HS3
        go_upto_region 10 with (fail)
        refine wp_region_inv0 (fun ac0 L ac w' => ∃ x24 x25 x26 x27 x28 x29 x30 x31 x32 x33, ac = turn ac0 [(24, x24), (25, x25), (26, x26), (27, x27), (28, x28), (29, x29), (30, x30), (31, x31), (32, x32), (33, x33)] ∧ (L 0 = true → x24 = .slice A6 no6 c6) ∧ (L 1 = true → x25 = .int .i64 (r : Int)) ∧ (L 2 = true → x26 = .int .i64 (q : Int)) ∧ (L 3 = true → x27 = .int .u8 (q : Int)) ∧ (L 4 = true → x28 = .slice (some ⟨b, off, none⟩) n c) ∧ (L 5 = true → x29 = .int .i64 (a : Int)) ∧ (L 6 = true → x30 = .pointer (some ⟨b, off + a, none⟩)) ∧ (L 7 = true → x31 = .int .u8 (x : Int)) ∧ (L 2 = true → L 1 = true) ∧ (L 3 = true → L 2 = true) ∧ (L 6 = true → L 4 = true ∧ L 5 = true) ∧ (L 7 = true → L 6 = true) ∧ (L 8 = true → L 3 = true ∧ L 7 = true) ∧ (L 9 = true → L 0 = true ∧ L 8 = true) ∧ (L 10 = true → L 0 = true ∧ L 1 = true ∧ L 2 = true ∧ L 3 = true ∧ L 4 = true ∧ L 5 = true ∧ L 6 = true ∧ L 7 = true ∧ L 8 = true ∧ L 9 = true) ∧ (if L 10 = true then (∃ A' c', x33 = .slice A' (no6 + 2) c' ∧ no6 + 2 ≤ c' ∧ Sep w w' [.cells gp 33 [.slice none 0 0], .cells go 33 [.slice A' (no6 + 2) c'], .row 5 1 (.slice A' (no6 + 2) c') (no6 + 2) (out6.flatMap bcell ++ [.int .u8 (q : Int), .int .u8 (x : Int)])]) else (if L 9 = true then (∃ A' c', x33 = .slice A' (no6 + 2) c' ∧ no6 + 2 ≤ c' ∧ Sep w w' [.cells gp 33 [.slice none 0 0], .cells go 33 [.slice A6 no6 c6], .row 5 1 (.slice A' (no6 + 2) c') (no6 + 2) (out6.flatMap bcell ++ [.int .u8 (q : Int), .int .u8 (x : Int)])]) else (if L 8 = true then (∃ gv, x32 = .slice (some ⟨gv, 0, none⟩) 2 2 ∧ Sep w w' [.cells gp 33 [.slice none 0 0], .cells go 33 [.slice A6 no6 c6], .row 5 1 (.slice A6 no6 c6) no6 (out6.flatMap bcell), .cells gv 5 [.int .u8 (q : Int), .int .u8 (x : Int)]]) else Sep w w' [.cells gp 33 [.slice none 0 0], .cells go 33 [.slice A6 no6 c6], .row 5 1 (.slice A6 no6 c6) no6 (out6.flatMap bcell)])))) rfl (by kernel_rfl) ?_ ?_ ?_
        · simp only [turn, List.foldl_cons, List.foldl_nil, List.setIfInBounds_toArray, List.set_cons_succ, List.set_cons_zero]
          exact ⟨_, _, _, _, _, _, _, _, _, _, rfl, (fun h => absurd h (by decide)), (fun h => absurd h (by decide)), (fun h => absurd h (by decide)), (fun h => absurd h (by decide)), (fun h => absurd h (by decide)), (fun h => absurd h (by decide)), (fun h => absurd h (by decide)), (fun h => absurd h (by decide)), (fun h => absurd h (by decide)), (fun h => absurd h (by decide)), (fun h => absurd h (by decide)), (fun h => absurd h (by decide)), (fun h => absurd h (by decide)), (fun h => absurd h (by decide)), (fun h => absurd h (by decide)), by simpa using HS.out.drew⟩
        · rintro L ac w' i o ⟨x24, x25, x26, x27, x28, x29, x30, x31, x32, x33, ha, p0, p1, p2, p3, p4, p5, p6, p7, q2, q3, q6, q7, q8, q9, q10, hS⟩ ho hi he
          simp only [turn, List.foldl_cons, List.foldl_nil, List.setIfInBounds_toArray, List.set_cons_succ, List.set_cons_zero] at ha ⊢
          subst ha
          rcases i with _|_|_|_|_|_|_|_|_|_|_|i
          all_goals cases ho
          all_goals simp [Region.binds] at he
          · have h9 : L 9 = false := by cases hh : L 9 with | false => rfl | true => (have hq := q9 hh; simp [hi] at hq)
            have h10 : L 10 = false := by cases hh : L 10 with | false => rfl | true => (have hq := q10 hh; simp [hi] at hq)
            have f0 : w'.cell? ⟨go, 0, none⟩ = some (.slice A6 no6 c6) := by
              rw [if_neg (by simp [h10]), if_neg (by simp [h9])] at hS
              split at hS
              · obtain ⟨gv, _, S⟩ := hS
                exact S.cell 1 rfl (k := 0) rfl
              · exact hS.cell 1 rfl (k := 0) rfl
            refine wpOp_step rfl (fun K hK => ?_)
            go_simp
            exact hK _ _ ⟨_, _, _, _, _, _, _, _, _, _, rfl, (fun _ => rfl), (by first | exact p1 | exact fun _ => rfl), (by first | exact p2 | exact fun _ => rfl), (by first | exact p3 | exact fun _ => rfl), (by first | exact p4 | exact fun _ => rfl), (by first | exact p5 | exact fun _ => rfl), (by first | exact p6 | exact fun _ => rfl), (by first | exact p7 | exact fun _ => rfl), (by simpa using q2), (by simpa using q3), (by simpa using q6), (by simpa using q7), (by simpa using q8), (by simp [h9]), (by simp [h10]), (by simpa [h9, h10] using hS)⟩
          · have h2 : L 2 = false := by cases hh : L 2 with | false => rfl | true => (have hq := q2 hh; simp [hi] at hq)
            have h10 : L 10 = false := by cases hh : L 10 with | false => rfl | true => (have hq := q10 hh; simp [hi] at hq)
            have h3 : L 3 = false := by cases hh : L 3 with | false => rfl | true => (have hq := q3 hh; simp [h2] at hq)
            have h8 : L 8 = false := by cases hh : L 8 with | false => rfl | true => (have hq := q8 hh; simp [h3] at hq)
            have h9 : L 9 = false := by cases hh : L 9 with | false => rfl | true => (have hq := q9 hh; simp [h8] at hq)
            refine wpOp_step rfl (fun K hK => ?_)
            go_simp
            exact hK _ _ ⟨_, _, _, _, _, _, _, _, _, _, rfl, (by first | exact p0 | exact fun _ => rfl), (fun _ => rfl), (by simp [h2]), (by simp [h3]), (by first | exact p4 | exact fun _ => rfl), (by first | exact p5 | exact fun _ => rfl), (by first | exact p6 | exact fun _ => rfl), (by first | exact p7 | exact fun _ => rfl), (by simp [h2]), (by simp [h3]), (by simpa using q6), (by simpa using q7), (by simp [h8]), (by simp [h9]), (by simp [h10]), (by simpa [h2, h10, h3, h8, h9] using hS)⟩
          · have h3 : L 3 = false := by cases hh : L 3 with | false => rfl | true => (have hq := q3 hh; simp [hi] at hq)
            have h10 : L 10 = false := by cases hh : L 10 with | false => rfl | true => (have hq := q10 hh; simp [hi] at hq)
            have h8 : L 8 = false := by cases hh : L 8 with | false => rfl | true => (have hq := q8 hh; simp [h3] at hq)
            have h9 : L 9 = false := by cases hh : L 9 with | false => rfl | true => (have hq := q9 hh; simp [h8] at hq)
            obtain rfl := p1 (by simp [he])
            refine wpOp_step rfl (fun K hK => ?_)
            go_simp
            exact hK _ _ ⟨_, _, _, _, _, _, _, _, _, _, rfl, (by first | exact p0 | exact fun _ => rfl), (by first | exact p1 | exact fun _ => rfl), (fun _ => rfl), (by simp [h3]), (by first | exact p4 | exact fun _ => rfl), (by first | exact p5 | exact fun _ => rfl), (by first | exact p6 | exact fun _ => rfl), (by first | exact p7 | exact fun _ => rfl), (by simp [he]), (by simp [h3]), (by simpa using q6), (by simpa using q7), (by simp [h8]), (by simp [h9]), (by simp [h10]), (by simpa [h3, h10, h8, h9] using hS)⟩
          · have h8 : L 8 = false := by cases hh : L 8 with | false => rfl | true => (have hq := q8 hh; simp [hi] at hq)
            have h10 : L 10 = false := by cases hh : L 10 with | false => rfl | true => (have hq := q10 hh; simp [hi] at hq)
            have h9 : L 9 = false := by cases hh : L 9 with | false => rfl | true => (have hq := q9 hh; simp [h8] at hq)
            obtain rfl := p2 (by simp [he])
            refine wpOp_step rfl (fun K hK => ?_)
            go_simp
            exact hK _ _ ⟨_, _, _, _, _, _, _, _, _, _, rfl, (by first | exact p0 | exact fun _ => rfl), (by first | exact p1 | exact fun _ => rfl), (by first | exact p2 | exact fun _ => rfl), (fun _ => rfl), (by first | exact p4 | exact fun _ => rfl), (by first | exact p5 | exact fun _ => rfl), (by first | exact p6 | exact fun _ => rfl), (by first | exact p7 | exact fun _ => rfl), (by simpa using q2), (by simp [he]), (by simpa using q6), (by simpa using q7), (by simp [h8]), (by simp [h9]), (by simp [h10]), (by simpa [h8, h10, h9] using hS)⟩
          · have h6 : L 6 = false := by cases hh : L 6 with | false => rfl | true => (have hq := q6 hh; simp [hi] at hq)
            have h10 : L 10 = false := by cases hh : L 10 with | false => rfl | true => (have hq := q10 hh; simp [hi] at hq)
            have h7 : L 7 = false := by cases hh : L 7 with | false => rfl | true => (have hq := q7 hh; simp [h6] at hq)
            have h8 : L 8 = false := by cases hh : L 8 with | false => rfl | true => (have hq := q8 hh; simp [h7] at hq)
            have h9 : L 9 = false := by cases hh : L 9 with | false => rfl | true => (have hq := q9 hh; simp [h8] at hq)
            refine wpOp_step rfl (fun K hK => ?_)
            go_simp
            exact hK _ _ ⟨_, _, _, _, _, _, _, _, _, _, rfl, (by first | exact p0 | exact fun _ => rfl), (by first | exact p1 | exact fun _ => rfl), (by first | exact p2 | exact fun _ => rfl), (by first | exact p3 | exact fun _ => rfl), (fun _ => rfl), (by first | exact p5 | exact fun _ => rfl), (by simp [h6]), (by simp [h7]), (by simpa using q2), (by simpa using q3), (by simp [h6]), (by simp [h7]), (by simp [h8]), (by simp [h9]), (by simp [h10]), (by simpa [h6, h10, h7, h8, h9] using hS)⟩
          · have h6 : L 6 = false := by cases hh : L 6 with | false => rfl | true => (have hq := q6 hh; simp [hi] at hq)
            have h10 : L 10 = false := by cases hh : L 10 with | false => rfl | true => (have hq := q10 hh; simp [hi] at hq)
            have h7 : L 7 = false := by cases hh : L 7 with | false => rfl | true => (have hq := q7 hh; simp [h6] at hq)
            have h8 : L 8 = false := by cases hh : L 8 with | false => rfl | true => (have hq := q8 hh; simp [h7] at hq)
            have h9 : L 9 = false := by cases hh : L 9 with | false => rfl | true => (have hq := q9 hh; simp [h8] at hq)
            refine wpOp_step rfl (fun K hK => ?_)
            go_simp
            exact hK _ _ ⟨_, _, _, _, _, _, _, _, _, _, rfl, (by first | exact p0 | exact fun _ => rfl), (by first | exact p1 | exact fun _ => rfl), (by first | exact p2 | exact fun _ => rfl), (by first | exact p3 | exact fun _ => rfl), (by first | exact p4 | exact fun _ => rfl), (fun _ => rfl), (by simp [h6]), (by simp [h7]), (by simpa using q2), (by simpa using q3), (by simp [h6]), (by simp [h7]), (by simp [h8]), (by simp [h9]), (by simp [h10]), (by simpa [h6, h10, h7, h8, h9] using hS)⟩
          · have h7 : L 7 = false := by cases hh : L 7 with | false => rfl | true => (have hq := q7 hh; simp [hi] at hq)
            have h10 : L 10 = false := by cases hh : L 10 with | false => rfl | true => (have hq := q10 hh; simp [hi] at hq)
            have h8 : L 8 = false := by cases hh : L 8 with | false => rfl | true => (have hq := q8 hh; simp [h7] at hq)
            have h9 : L 9 = false := by cases hh : L 9 with | false => rfl | true => (have hq := q9 hh; simp [h8] at hq)
            obtain rfl := p4 (by simp [he])
            obtain rfl := p5 (by simp [he])
            refine wpOp_step rfl (fun K hK => ?_)
            go_simp
            exact hK _ _ ⟨_, _, _, _, _, _, _, _, _, _, rfl, (by first | exact p0 | exact fun _ => rfl), (by first | exact p1 | exact fun _ => rfl), (by first | exact p2 | exact fun _ => rfl), (by first | exact p3 | exact fun _ => rfl), (by first | exact p4 | exact fun _ => rfl), (by first | exact p5 | exact fun _ => rfl), (fun _ => rfl), (by simp [h7]), (by simpa using q2), (by simpa using q3), (by simp [he]), (by simp [h7]), (by simp [h8]), (by simp [h9]), (by simp [h10]), (by simpa [h7, h10, h8, h9] using hS)⟩
          · have h8 : L 8 = false := by cases hh : L 8 with | false => rfl | true => (have hq := q8 hh; simp [hi] at hq)
            have h10 : L 10 = false := by cases hh : L 10 with | false => rfl | true => (have hq := q10 hh; simp [hi] at hq)
            have h9 : L 9 = false := by cases hh : L 9 with | false => rfl | true => (have hq := q9 hh; simp [h8] at hq)
            obtain rfl := p6 (by simp [he])
            have f0 : w'.cell? ⟨b, off + a, none⟩ = some (.int .u8 (x : Int)) := by
              rw [if_neg (by simp [h10]), if_neg (by simp [h9]), if_neg (by simp [h8])] at hS
              exact (hS.below.cell hb).trans HBX.out
            refine wpOp_step rfl (fun K hK => ?_)
            go_simp
            exact hK _ _ ⟨_, _, _, _, _, _, _, _, _, _, rfl, (by first | exact p0 | exact fun _ => rfl), (by first | exact p1 | exact fun _ => rfl), (by first | exact p2 | exact fun _ => rfl), (by first | exact p3 | exact fun _ => rfl), (by first | exact p4 | exact fun _ => rfl), (by first | exact p5 | exact fun _ => rfl), (by first | exact p6 | exact fun _ => rfl), (fun _ => rfl), (by simpa using q2), (by simpa using q3), (by simpa using q6), (by simp [he]), (by simp [h8]), (by simp [h9]), (by simp [h10]), (by simpa [h8, h10, h9] using hS)⟩
          · have h9 : L 9 = false := by cases hh : L 9 with | false => rfl | true => (have hq := q9 hh; simp [hi] at hq)
            have h10 : L 10 = false := by cases hh : L 10 with | false => rfl | true => (have hq := q10 hh; simp [hi] at hq)
            obtain rfl := p3 (by simp [he])
            obtain rfl := p7 (by simp [he])
            rw [if_neg (by simp [h10]), if_neg (by simp [h9]), if_neg (by simp [hi])] at hS
            have hN := hS.new 5 [.int .u8 (q : Int), .int .u8 (x : Int)]
            refine wpOp_step rfl (fun K hK => ?_)
            go_simp
            exact hK _ _ ⟨_, _, _, _, _, _, _, _, _, _, rfl, (by first | exact p0 | exact fun _ => rfl), (by first | exact p1 | exact fun _ => rfl), (by first | exact p2 | exact fun _ => rfl), (by first | exact p3 | exact fun _ => rfl), (by first | exact p4 | exact fun _ => rfl), (by first | exact p5 | exact fun _ => rfl), (by first | exact p6 | exact fun _ => rfl), (by first | exact p7 | exact fun _ => rfl), (by simpa using q2), (by simpa using q3), (by simpa using q6), (by simpa using q7), (by simp [he]), (by simp [h9]), (by simp [h10]), (by rw [if_neg (by simp [h10]), if_neg (by simp [h9]), if_pos (by simp)]; exact ⟨_, rfl, hN⟩)⟩
          · have h10 : L 10 = false := by cases hh : L 10 with | false => rfl | true => (have hq := q10 hh; simp [hi] at hq)
            obtain rfl := p0 (by simp [he])
            have t8 : L 8 = true := by simp [he]
            rw [if_neg (by simp [h10]), if_neg (by simp [hi]), if_pos t8] at hS
            obtain ⟨gv, rfl, hS⟩ := hS
            have hv0 : Rd w' w'.heap.size 1 (some ⟨gv, 0, none⟩) 2 [.int .u8 (q : Int), .int .u8 (x : Int)] := ⟨rfl, fun _ => ⟨gv, 0, rfl, Blk.lt (hS.blk 3 rfl), fun j u hj => by rw [Nat.zero_add]; exact hS.cell 3 rfl hj⟩⟩
            refine wpOp_at rfl rfl ?_
            refine oper_append_sep hS 2 (.tmp 24) (.tmp 32) 33 rfl 5 ti (.int .u8 0) 1 1 Try.underlying33 hti t0 t1 t2 rfl (by omega) _ no6 _ rfl rfl _ _ 2 2 _ rfl hv0 (by simp [Value.oneCell']) (by simp only [maxLen]; omega) (by omega) ?_
            intro A' c' w5 hc' _ K5
            exact ⟨_, _, _, _, _, _, _, _, _, _, rfl, (by first | exact p0 | exact fun _ => rfl), (by first | exact p1 | exact fun _ => rfl), (by first | exact p2 | exact fun _ => rfl), (by first | exact p3 | exact fun _ => rfl), (by first | exact p4 | exact fun _ => rfl), (by first | exact p5 | exact fun _ => rfl), (by first | exact p6 | exact fun _ => rfl), (by first | exact p7 | exact fun _ => rfl), (by simpa using q2), (by simpa using q3), (by simpa using q6), (by simpa using q7), (by simpa using q8), (by simp [he]), (by simp [h10]), (by rw [if_neg (by simp [h10]), if_pos (by simp)]; exact ⟨A', c', rfl, hc', K5.pick [0, 1, 2] (by decide) (by simp)⟩)⟩
          · have t8 : L 8 = true := by simp [he]
            have t9 : L 9 = true := by simp [he]
            rw [if_neg (by simp [hi]), if_pos t9] at hS
            obtain ⟨A', c', rfl, hc', hS⟩ := hS
            have e0 := hS.cell 1 rfl (k := 0) rfl
            have u0 := hS.froz 1 rfl (k := 0)
            have hN := hS.set 1 rfl (k := 0) (.slice A' (no6 + 2) c')
            refine wpOp_step rfl (fun K hK => ?_)
            go_simp
            exact hK _ _ ⟨_, _, _, _, _, _, _, _, _, _, rfl, (by first | exact p0 | exact fun _ => rfl), (by first | exact p1 | exact fun _ => rfl), (by first | exact p2 | exact fun _ => rfl), (by first | exact p3 | exact fun _ => rfl), (by first | exact p4 | exact fun _ => rfl), (by first | exact p5 | exact fun _ => rfl), (by first | exact p6 | exact fun _ => rfl), (by first | exact p7 | exact fun _ => rfl), (by simpa using q2), (by simpa using q3), (by simpa using q6), (by simpa using q7), (by simpa using q8), (by simpa using q9), (by simp [he]), (by rw [if_pos (by simp)]; exact ⟨A', c', rfl, hc', hN⟩)⟩
        · rintro L ac w' ⟨x24, x25, x26, x27, x28, x29, x30, x31, x32, x33, ha, p0, p1, p2, p3, p4, p5, p6, p7, q2, q3, q6, q7, q8, q9, q10, hS⟩ hall
          have t8 := hall 8 (by decide)
          have t9 := hall 9 (by decide)
          have t10 := hall 10 (by decide)
          rw [if_pos t10] at hS
          obtain ⟨A', c', rfl, hc', hS⟩ := hS
          obtain rfl := p0 (hall 0 (by decide))
          obtain rfl := p1 (hall 1 (by decide))
          obtain rfl := p2 (hall 2 (by decide))
          obtain rfl := p3 (hall 3 (by decide))
          obtain rfl := p4 (hall 4 (by decide))
          obtain rfl := p5 (hall 5 (by decide))
          obtain rfl := p6 (hall 6 (by decide))
          obtain rfl := p7 (hall 7 (by decide))
          simp only [turn, List.foldl_cons, List.foldl_nil, List.setIfInBounds_toArray, List.set_cons_succ, List.set_cons_zero] at ha
          subst ha
          clear q2 q3 q6 q7 q8 q9 q10 t8 t9 t10
          have HS9 : Hid (Sep w w' [.cells gp 33 [.slice none 0 0], .cells go 33 [.slice A' (no6 + 2) c'], .row 5 1 (.slice A' (no6 + 2) c') (no6 + 2) ((out6 ++ [q, x]).flatMap bcell), .row 5 1 (.slice none 0 0) 0 (([] : List Nat).flatMap bcell)]) := Lib.hid (by rw [List.flatMap_append]; exact hS.nilRow 5 1 none)
          clear hS
          obtain ⟨ar, HAR⟩ : ∃ ar : Nat, Hid (ar = a + r) := ⟨_, Lib.hid rfl⟩
          have kar : (a : Int) + (r : Int) = (ar : Int) := by rw [HAR.out]; omega
          have kar2 : ar ≤ 4096 := by have := HAR.out; have := HRB.out; omega
          go_wp2
          go_roundg (n + 1 - ar)
          case measure => have := HAR.out; omega
          case rel => exact ⟨ar, no6 + 2, c', 0, 0, A', none, out6 ++ [q, x], [], o2, by have := HRB.out; have := HAR.out; omega, rfl, rfl, hc', by omega, by have := HAR.out; omega, Lib.hid (by rw [List.length_append, HOL6.out]; rfl), Lib.hid rfl, Lib.hid (fun _ => ⟨rfl, rfl⟩), Lib.hid (by rw [HAR.out, HD1.out]; exact HP2.out), Lib.hid (by rw [HO6.out]; simp), HS9.out⟩
      · have hr3 : runL (x :: t) < 3 := by omega
        have HQQ : Hid ((p.length + 1 < 128 ∧ Pk (p ++ [x]) t o1) ∨ (p.length + 1 = 128 ∧ ∃ o2, o1 = fl (p ++ [x]) ++ o2 ∧ Pk [] t o2)) := Lib.hid (by
          have h1 := HPK2.out
          cases h1 with
          | run h4 h5 => omega
          | plain h4 h5 h6 => exact .inl ⟨h5, h6⟩
          | full h4 h5 h6 => exact .inr ⟨h5, _, rfl, h6⟩)
        have hd1 : l.drop (a + 1) = t := by rw [HD1.out]; rfl
        have HD := Lib.hid hd1
        clear HPK2 hd1 HD1
        generalize runL (x :: t) = r at *
        have j1 : ¬ (2 : Int) < (r : Int) := by omega
        go_wp2_with fail
        refine cV.out.mono ?_; rintro en w2 ⟨rfl, hb2⟩
        have HS2 := Lib.hid (HS.out.later hb2)
        clear hb2 HS cV
        have HS := HS2
        clear HS2
        by_cases hfull : np + 1 = 128
        · have HFULL := Lib.hid hfull
          clear hfull
          go_upto_region 12 with (fail)
          refine wp_region_inv0 (fun ac0 L ac w' => ∃ x37 x38 x39 x40 x41 x42 x43, ac = turn ac0 [(37, x37), (38, x38), (39, x39), (40, x40), (41, x41), (42, x42), (43, x43)] ∧ (L 0 = true → x37 = .slice A5 np c5) ∧ (L 1 = true → x38 = .slice (some ⟨b, off, none⟩) n c) ∧ (L 2 = true → x39 = .int .i64 (a : Int)) ∧ (L 3 = true → x40 = .pointer (some ⟨b, off + a, none⟩)) ∧ (L 4 = true → x41 = .int .u8 (x : Int)) ∧ (L 3 = true → L 1 = true ∧ L 2 = true) ∧ (L 4 = true → L 3 = true) ∧ (L 5 = true → L 4 = true) ∧ (L 6 = true → L 0 = true ∧ L 5 = true) ∧ (L 7 = true → L 0 = true ∧ L 1 = true ∧ L 2 = true ∧ L 3 = true ∧ L 4 = true ∧ L 5 = true ∧ L 6 = true) ∧ (if L 7 = true then (∃ A' c', x43 = .slice A' (np + 1) c' ∧ np + 1 ≤ c' ∧ Sep w w' [.cells gp 33 [.slice A' (np + 1) c'], .cells go 33 [.slice A4 no c4], .row 5 1 (.slice A4 no c4) no (out.flatMap bcell), .row 5 1 (.slice A' (np + 1) c') (np + 1) (p.flatMap bcell ++ [.int .u8 (x : Int)])]) else (if L 6 = true then (∃ A' c', x43 = .slice A' (np + 1) c' ∧ np + 1 ≤ c' ∧ Sep w w' [.cells gp 33 [.slice A5 np c5], .cells go 33 [.slice A4 no c4], .row 5 1 (.slice A4 no c4) no (out.flatMap bcell), .row 5 1 (.slice A' (np + 1) c') (np + 1) (p.flatMap bcell ++ [.int .u8 (x : Int)])]) else (if L 5 = true then (∃ gv, x42 = .slice (some ⟨gv, 0, none⟩) 1 1 ∧ Sep w w' [.cells gp 33 [.slice A5 np c5], .cells go 33 [.slice A4 no c4], .row 5 1 (.slice A4 no c4) no (out.flatMap bcell), .row 5 1 (.slice A5 np c5) np (p.flatMap bcell), .cells gv 5 [.int .u8 (x : Int)]]) else Sep w w' [.cells gp 33 [.slice A5 np c5], .cells go 33 [.slice A4 no c4], .row 5 1 (.slice A4 no c4) no (out.flatMap bcell), .row 5 1 (.slice A5 np c5) np (p.flatMap bcell)])))) rfl (by kernel_rfl) ?_ ?_ ?_
          · simp only [turn, List.foldl_cons, List.foldl_nil, List.setIfInBounds_toArray, List.set_cons_succ, List.set_cons_zero]
            exact ⟨_, _, _, _, _, _, _, rfl, (fun h => absurd h (by decide)), (fun h => absurd h (by decide)), (fun h => absurd h (by decide)), (fun h => absurd h (by decide)), (fun h => absurd h (by decide)), (fun h => absurd h (by decide)), (fun h => absurd h (by decide)), (fun h => absurd h (by decide)), (fun h => absurd h (by decide)), (fun h => absurd h (by decide)), by simpa using HS.out.drew⟩
          · rintro L ac w' i o ⟨x37, x38, x39, x40, x41, x42, x43, ha, p0, p1, p2, p3, p4, q3, q4, q5, q6, q7, hS⟩ ho hi he
            simp only [turn, List.foldl_cons, List.foldl_nil, List.setIfInBounds_toArray, List.set_cons_succ, List.set_cons_zero] at ha ⊢
            subst ha
            rcases i with _|_|_|_|_|_|_|_|i
            all_goals cases ho
            all_goals simp [Region.binds] at he
            · have h6 : L 6 = false := by cases hh : L 6 with | false => rfl | true => (have hq := q6 hh; simp [hi] at hq)
              have h7 : L 7 = false := by cases hh : L 7 with | false => rfl | true => (have hq := q7 hh; simp [hi] at hq)
              have f0 : w'.cell? ⟨gp, 0, none⟩ = some (.slice A5 np c5) := by
                rw [if_neg (by simp [h7]), if_neg (by simp [h6])] at hS
                split at hS
                · obtain ⟨gv, _, S⟩ := hS
                  exact S.cell 0 rfl (k := 0) rfl
                · exact hS.cell 0 rfl (k := 0) rfl
              refine wpOp_step rfl (fun K hK => ?_)
              go_simp
              exact hK _ _ ⟨_, _, _, _, _, _, _, rfl, (fun _ => rfl), (by first | exact p1 | exact fun _ => rfl), (by first | exact p2 | exact fun _ => rfl), (by first | exact p3 | exact fun _ => rfl), (by first | exact p4 | exact fun _ => rfl), (by simpa using q3), (by simpa using q4), (by simpa using q5), (by simp [h6]), (by simp [h7]), (by simpa [h6, h7] using hS)⟩
            · have h3 : L 3 = false := by cases hh : L 3 with | false => rfl | true => (have hq := q3 hh; simp [hi] at hq)
              have h7 : L 7 = false := by cases hh : L 7 with | false => rfl | true => (have hq := q7 hh; simp [hi] at hq)
              have h4 : L 4 = false := by cases hh : L 4 with | false => rfl | true => (have hq := q4 hh; simp [h3] at hq)
              have h5 : L 5 = false := by cases hh : L 5 with | false => rfl | true => (have hq := q5 hh; simp [h4] at hq)
              have h6 : L 6 = false := by cases hh : L 6 with | false => rfl | true => (have hq := q6 hh; simp [h5] at hq)
              refine wpOp_step rfl (fun K hK => ?_)
              go_simp
              exact hK _ _ ⟨_, _, _, _, _, _, _, rfl, (by first | exact p0 | exact fun _ => rfl), (fun _ => rfl), (by first | exact p2 | exact fun _ => rfl), (by simp [h3]), (by simp [h4]), (by simp [h3]), (by simp [h4]), (by simp [h5]), (by simp [h6]), (by simp [h7]), (by simpa [h3, h7, h4, h5, h6] using hS)⟩
            · have h3 : L 3 = false := by cases hh : L 3 with | false => rfl | true => (have hq := q3 hh; simp [hi] at hq)
              have h7 : L 7 = false := by cases hh : L 7 with | false => rfl | true => (have hq := q7 hh; simp [hi] at hq)
              have h4 : L 4 = false := by cases hh : L 4 with | false => rfl | true => (have hq := q4 hh; simp [h3] at hq)
              have h5 : L 5 = false := by cases hh : L 5 with | false => rfl | true => (have hq := q5 hh; simp [h4] at hq)
              have h6 : L 6 = false := by cases hh : L 6 with | false => rfl | true => (have hq := q6 hh; simp [h5] at hq)
              refine wpOp_step rfl (fun K hK => ?_)
              go_simp
              exact hK _ _ ⟨_, _, _, _, _, _, _, rfl, (by first | exact p0 | exact fun _ => rfl), (by first | exact p1 | exact fun _ => rfl), (fun _ => rfl), (by simp [h3]), (by simp [h4]), (by simp [h3]), (by simp [h4]), (by simp [h5]), (by simp [h6]), (by simp [h7]), (by simpa [h3, h7, h4, h5, h6] using hS)⟩
            · have h4 : L 4 = false := by cases hh : L 4 with | false => rfl | true => (have hq := q4 hh; simp [hi] at hq)
              have h7 : L 7 = false := by cases hh : L 7 with | false => rfl | true => (have hq := q7 hh; simp [hi] at hq)
              have h5 : L 5 = false := by cases hh : L 5 with | false => rfl | true => (have hq := q5 hh; simp [h4] at hq)
              have h6 : L 6 = false := by cases hh : L 6 with | false => rfl | true => (have hq := q6 hh; simp [h5] at hq)
              obtain rfl := p1 (by simp [he])
              obtain rfl := p2 (by simp [he])
              refine wpOp_step rfl (fun K hK => ?_)
              go_simp
              exact hK _ _ ⟨_, _, _, _, _, _, _, rfl, (by first | exact p0 | exact fun _ => rfl), (by first | exact p1 | exact fun _ => rfl), (by first | exact p2 | exact fun _ => rfl), (fun _ => rfl), (by simp [h4]), (by simp [he]), (by simp [h4]), (by simp [h5]), (by simp [h6]), (by simp [h7]), (by simpa [h4, h7, h5, h6] using hS)⟩
            · have h5 : L 5 = false := by cases hh : L 5 with | false => rfl | true => (have hq := q5 hh; simp [hi] at hq)
              have h7 : L 7 = false := by cases hh : L 7 with | false => rfl | true => (have hq := q7 hh; simp [hi] at hq)
              have h6 : L 6 = false := by cases hh : L 6 with | false => rfl | true => (have hq := q6 hh; simp [h5] at hq)
              obtain rfl := p3 (by simp [he])
              have f0 : w'.cell? ⟨b, off + a, none⟩ = some (.int .u8 (x : Int)) := by
                rw [if_neg (by simp [h7]), if_neg (by simp [h6]), if_neg (by simp [h5])] at hS
                exact (hS.below.cell hb).trans HBX.out
              refine wpOp_step rfl (fun K hK => ?_)
              go_simp
              exact hK _ _ ⟨_, _, _, _, _, _, _, rfl, (by first | exact p0 | exact fun _ => rfl), (by first | exact p1 | exact fun _ => rfl), (by first | exact p2 | exact fun _ => rfl), (by first | exact p3 | exact fun _ => rfl), (fun _ => rfl), (by simpa using q3), (by simp [he]), (by simp [h5]), (by simp [h6]), (by simp [h7]), (by simpa [h5, h7, h6] using hS)⟩
            · have h6 : L 6 = false := by cases hh : L 6 with | false => rfl | true => (have hq := q6 hh; simp [hi] at hq)
              have h7 : L 7 = false := by cases hh : L 7 with | false => rfl | true => (have hq := q7 hh; simp [hi] at hq)
              obtain rfl := p4 (by simp [he])
              rw [if_neg (by simp [h7]), if_neg (by simp [h6]), if_neg (by simp [hi])] at hS
              have hN := hS.new 5 [.int .u8 (x : Int)]
              refine wpOp_step rfl (fun K hK => ?_)
              go_simp
              exact hK _ _ ⟨_, _, _, _, _, _, _, rfl, (by first | exact p0 | exact fun _ => rfl), (by first | exact p1 | exact fun _ => rfl), (by first | exact p2 | exact fun _ => rfl), (by first | exact p3 | exact fun _ => rfl), (by first | exact p4 | exact fun _ => rfl), (by simpa using q3), (by simpa using q4), (by simp [he]), (by simp [h6]), (by simp [h7]), (by rw [if_neg (by simp [h7]), if_neg (by simp [h6]), if_pos (by simp)]; exact ⟨_, rfl, hN⟩)⟩
            · have h7 : L 7 = false := by cases hh : L 7 with | false => rfl | true => (have hq := q7 hh; simp [hi] at hq)
              obtain rfl := p0 (by simp [he])
              have t5 : L 5 = true := by simp [he]
              rw [if_neg (by simp [h7]), if_neg (by simp [hi]), if_pos t5] at hS
              obtain ⟨gv, rfl, hS⟩ := hS
              have hv0 : Rd w' w'.heap.size 1 (some ⟨gv, 0, none⟩) 1 [.int .u8 (x : Int)] := ⟨rfl, fun _ => ⟨gv, 0, rfl, Blk.lt (hS.blk 4 rfl), fun j u hj => by rw [Nat.zero_add]; exact hS.cell 4 rfl hj⟩⟩
              refine wpOp_at rfl rfl ?_
              refine oper_append_sep hS 3 (.tmp 37) (.tmp 42) 33 rfl 5 ti (.int .u8 0) 1 1 Try.underlying33 hti t0 t1 t2 rfl (by omega) _ np _ rfl rfl _ _ 1 1 _ rfl hv0 (by simp [Value.oneCell']) (by simp only [maxLen]; omega) (by omega) ?_
              intro A' c' w5 hc' _ K5
              exact ⟨_, _, _, _, _, _, _, rfl, (by first | exact p0 | exact fun _ => rfl), (by first | exact p1 | exact fun _ => rfl), (by first | exact p2 | exact fun _ => rfl), (by first | exact p3 | exact fun _ => rfl), (by first | exact p4 | exact fun _ => rfl), (by simpa using q3), (by simpa using q4), (by simpa using q5), (by simp [he]), (by simp [h7]), (by rw [if_neg (by simp [h7]), if_pos (by simp)]; exact ⟨A', c', rfl, hc', K5.pick [0, 1, 2, 3] (by decide) (by simp)⟩)⟩
            · have t5 : L 5 = true := by simp [he]
              have t6 : L 6 = true := by simp [he]
              rw [if_neg (by simp [hi]), if_pos t6] at hS
              obtain ⟨A', c', rfl, hc', hS⟩ := hS
              have e0 := hS.cell 0 rfl (k := 0) rfl
              have u0 := hS.froz 0 rfl (k := 0)
              have hN := hS.set 0 rfl (k := 0) (.slice A' (np + 1) c')
              refine wpOp_step rfl (fun K hK => ?_)
              go_simp
              exact hK _ _ ⟨_, _, _, _, _, _, _, rfl, (by first | exact p0 | exact fun _ => rfl), (by first | exact p1 | exact fun _ => rfl), (by first | exact p2 | exact fun _ => rfl), (by first | exact p3 | exact fun _ => rfl), (by first | exact p4 | exact fun _ => rfl), (by simpa using q3), (by simpa using q4), (by simpa using q5), (by simpa using q6), (by simp [he]), (by rw [if_pos (by simp)]; exact ⟨A', c', rfl, hc', hN⟩)⟩
          · rintro L ac w' ⟨x37, x38, x39, x40, x41, x42, x43, ha, p0, p1, p2, p3, p4, q3, q4, q5, q6, q7, hS⟩ hall
            have t5 := hall 5 (by decide)
            have t6 := hall 6 (by decide)
            have t7 := hall 7 (by decide)
            rw [if_pos t7] at hS
            obtain ⟨A', c', rfl, hc', hS⟩ := hS
            obtain rfl := p0 (hall 0 (by decide))
            obtain rfl := p1 (hall 1 (by decide))
            obtain rfl := p2 (hall 2 (by decide))
            obtain rfl := p3 (hall 3 (by decide))
            obtain rfl := p4 (hall 4 (by decide))
            simp only [turn, List.foldl_cons, List.foldl_nil, List.setIfInBounds_toArray, List.set_cons_succ, List.set_cons_zero] at ha
            subst ha
            clear q3 q4 q5 q6 q7 t5 t6 t7
            have HS9 : Hid (Sep w w' [.cells gp 33 [.slice A' (np + 1) c'], .cells go 33 [.slice A4 no c4], .row 5 1 (.slice A4 no c4) no (out.flatMap bcell), .row 5 1 (.slice A' (np + 1) c') (np + 1) ((p ++ [x]).flatMap bcell)]) := Lib.hid (by rw [List.flatMap_append]; exact hS)
            clear hS
            have HPL2 : Hid ((p ++ [x]).length = np + 1) := Lib.hid (by rw [List.length_append, HPL.out]; rfl)
            have f0 := HS9.out.cell 0 rfl (k := 0) rfl
            obtain ⟨np1, HNP⟩ : ∃ np1 : Nat, Hid (np1 = np + 1) := ⟨_, Lib.hid rfl⟩
            rw [← HNP.out] at HS9 HPL2 hc' f0
            have kf : np1 = 128 := by have := HNP.out; have := HFULL.out; omega
            have HPN : Hid (∃ o2, o1 = fl (p ++ [x]) ++ o2 ∧ Pk [] t o2) := Lib.hid (by
              rcases HQQ.out with h | h
              · have h1 := h.1; rw [HPL.out] at h1; have := HFULL.out; omega
              · exact h.2)
            clear HQQ
            obtain ⟨o2, HO2, HP2⟩ := HPN.out
            have HOO := Lib.hid HO2
            have HPP := Lib.hid HP2
            clear HO2 HP2 HPN
            subst kf
            have cF := Lib.hid (fun V h => flush_any gp go no c4 128 c' A4 A' out (p ++ [x]) w V h HPL2.out (fun h => by omega) (by omega) (by omega) hc4 HOL.out)
            go_wp2_with fail
            refine (cF.out _ HS9.out).mono ?_; rintro en w3 ⟨rfl, A6, no6, c6, hc6, hol6, hs6⟩
            have HS3 := Lib.hid hs6
            have hbn : no6 ≤ no + 129 := by
              have h1 : (fl (p ++ [x])).length ≤ (p ++ [x]).length + 1 := by unfold fl; split <;> simp
              rw [← hol6, List.length_append, HOL.out]
              have := HPL2.out
              omega
            have HOL6 := Lib.hid hol6
            have HN128 := HNP
            clear hol6 hs6 HS9 cF f0 HNP
            go_wp2
            go_roundg (n + 1 - (a + 1))
            case measure => omega
            case rel => exact ⟨a + 1, no6, c6, 0, 0, A6, none, out ++ fl (p ++ [x]), [], o2, by omega, by go_num, rfl, hc6, by omega, by have := HN128.out; omega, HOL6, Lib.hid rfl, Lib.hid (fun _ => ⟨rfl, rfl⟩), Lib.hid (by rw [HD.out]; exact HPP.out), Lib.hid (by rw [HO.out, HOO.out, List.append_assoc]), HS3.out⟩
        · go_upto_region 12 with (fail)
          refine wp_region_inv0 (fun ac0 L ac w' => ∃ x37 x38 x39 x40 x41 x42 x43, ac = turn ac0 [(37, x37), (38, x38), (39, x39), (40, x40), (41, x41), (42, x42), (43, x43)] ∧ (L 0 = true → x37 = .slice A5 np c5) ∧ (L 1 = true → x38 = .slice (some ⟨b, off, none⟩) n c) ∧ (L 2 = true → x39 = .int .i64 (a : Int)) ∧ (L 3 = true → x40 = .pointer (some ⟨b, off + a, none⟩)) ∧ (L 4 = true → x41 = .int .u8 (x : Int)) ∧ (L 3 = true → L 1 = true ∧ L 2 = true) ∧ (L 4 = true → L 3 = true) ∧ (L 5 = true → L 4 = true) ∧ (L 6 = true → L 0 = true ∧ L 5 = true) ∧ (L 7 = true → L 0 = true ∧ L 1 = true ∧ L 2 = true ∧ L 3 = true ∧ L 4 = true ∧ L 5 = true ∧ L 6 = true) ∧ (if L 7 = true then (∃ A' c', x43 = .slice A' (np + 1) c' ∧ np + 1 ≤ c' ∧ Sep w w' [.cells gp 33 [.slice A' (np + 1) c'], .cells go 33 [.slice A4 no c4], .row 5 1 (.slice A4 no c4) no (out.flatMap bcell), .row 5 1 (.slice A' (np + 1) c') (np + 1) (p.flatMap bcell ++ [.int .u8 (x : Int)])]) else (if L 6 = true then (∃ A' c', x43 = .slice A' (np + 1) c' ∧ np + 1 ≤ c' ∧ Sep w w' [.cells gp 33 [.slice A5 np c5], .cells go 33 [.slice A4 no c4], .row 5 1 (.slice A4 no c4) no (out.flatMap bcell), .row 5 1 (.slice A' (np + 1) c') (np + 1) (p.flatMap bcell ++ [.int .u8 (x : Int)])]) else (if L 5 = true then (∃ gv, x42 = .slice (some ⟨gv, 0, none⟩) 1 1 ∧ Sep w w' [.cells gp 33 [.slice A5 np c5], .cells go 33 [.slice A4 no c4], .row 5 1 (.slice A4 no c4) no (out.flatMap bcell), .row 5 1 (.slice A5 np c5) np (p.flatMap bcell), .cells gv 5 [.int .u8 (x : Int)]]) else Sep w w' [.cells gp 33 [.slice A5 np c5], .cells go 33 [.slice A4 no c4], .row 5 1 (.slice A4 no c4) no (out.flatMap bcell), .row 5 1 (.slice A5 np c5) np (p.flatMap bcell)])))) rfl (by kernel_rfl) ?_ ?_ ?_
          · simp only [turn, List.foldl_cons, List.foldl_nil, List.setIfInBounds_toArray, List.set_cons_succ, List.set_cons_zero]
            exact ⟨_, _, _, _, _, _, _, rfl, (fun h => absurd h (by decide)), (fun h => absurd h (by decide)), (fun h => absurd h (by decide)), (fun h => absurd h (by decide)), (fun h => absurd h (by decide)), (fun h => absurd h (by decide)), (fun h => absurd h (by decide)), (fun h => absurd h (by decide)), (fun h => absurd h (by decide)), (fun h => absurd h (by decide)), by simpa using HS.out.drew⟩
          · rintro L ac w' i o ⟨x37, x38, x39, x40, x41, x42, x43, ha, p0, p1, p2, p3, p4, q3, q4, q5, q6, q7, hS⟩ ho hi he
            simp only [turn, List.foldl_cons, List.foldl_nil, List.setIfInBounds_toArray, List.set_cons_succ, List.set_cons_zero] at ha ⊢
            subst ha
            rcases i with _|_|_|_|_|_|_|_|i
            all_goals cases ho
            all_goals simp [Region.binds] at he
            · have h6 : L 6 = false := by cases hh : L 6 with | false => rfl | true => (have hq := q6 hh; simp [hi] at hq)
              have h7 : L 7 = false := by cases hh : L 7 with | false => rfl | true => (have hq := q7 hh; simp [hi] at hq)
              have f0 : w'.cell? ⟨gp, 0, none⟩ = some (.slice A5 np c5) := by
                rw [if_neg (by simp [h7]), if_neg (by simp [h6])] at hS
                split at hS
                · obtain ⟨gv, _, S⟩ := hS
                  exact S.cell 0 rfl (k := 0) rfl
                · exact hS.cell 0 rfl (k := 0) rfl
              refine wpOp_step rfl (fun K hK => ?_)
              go_simp
              exact hK _ _ ⟨_, _, _, _, _, _, _, rfl, (fun _ => rfl), (by first | exact p1 | exact fun _ => rfl), (by first | exact p2 | exact fun _ => rfl), (by first | exact p3 | exact fun _ => rfl), (by first | exact p4 | exact fun _ => rfl), (by simpa using q3), (by simpa using q4), (by simpa using q5), (by simp [h6]), (by simp [h7]), (by simpa [h6, h7] using hS)⟩
            · have h3 : L 3 = false := by cases hh : L 3 with | false => rfl | true => (have hq := q3 hh; simp [hi] at hq)
              have h7 : L 7 = false := by cases hh : L 7 with | false => rfl | true => (have hq := q7 hh; simp [hi] at hq)
              have h4 : L 4 = false := by cases hh : L 4 with | false => rfl | true => (have hq := q4 hh; simp [h3] at hq)
              have h5 : L 5 = false := by cases hh : L 5 with | false => rfl | true => (have hq := q5 hh; simp [h4] at hq)
              have h6 : L 6 = false := by cases hh : L 6 with | false => rfl | true => (have hq := q6 hh; simp [h5] at hq)
              refine wpOp_step rfl (fun K hK => ?_)
              go_simp
              exact hK _ _ ⟨_, _, _, _, _, _, _, rfl, (by first | exact p0 | exact fun _ => rfl), (fun _ => rfl), (by first | exact p2 | exact fun _ => rfl), (by simp [h3]), (by simp [h4]), (by simp [h3]), (by simp [h4]), (by simp [h5]), (by simp [h6]), (by simp [h7]), (by simpa [h3, h7, h4, h5, h6] using hS)⟩
            · have h3 : L 3 = false := by cases hh : L 3 with | false => rfl | true => (have hq := q3 hh; simp [hi] at hq)
              have h7 : L 7 = false := by cases hh : L 7 with | false => rfl | true => (have hq := q7 hh; simp [hi] at hq)
              have h4 : L 4 = false := by cases hh : L 4 with | false => rfl | true => (have hq := q4 hh; simp [h3] at hq)
              have h5 : L 5 = false := by cases hh : L 5 with | false => rfl | true => (have hq := q5 hh; simp [h4] at hq)
              have h6 : L 6 = false := by cases hh : L 6 with | false => rfl | true => (have hq := q6 hh; simp [h5] at hq)
              refine wpOp_step rfl (fun K hK => ?_)
              go_simp
              exact hK _ _ ⟨_, _, _, _, _, _, _, rfl, (by first | exact p0 | exact fun _ => rfl), (by first | exact p1 | exact fun _ => rfl), (fun _ => rfl), (by simp [h3]), (by simp [h4]), (by simp [h3]), (by simp [h4]), (by simp [h5]), (by simp [h6]), (by simp [h7]), (by simpa [h3, h7, h4, h5, h6] using hS)⟩
            · have h4 : L 4 = false := by cases hh : L 4 with | false => rfl | true => (have hq := q4 hh; simp [hi] at hq)
              have h7 : L 7 = false := by cases hh : L 7 with | false => rfl | true => (have hq := q7 hh; simp [hi] at hq)
              have h5 : L 5 = false := by cases hh : L 5 with | false => rfl | true => (have hq := q5 hh; simp [h4] at hq)
              have h6 : L 6 = false := by cases hh : L 6 with | false => rfl | true => (have hq := q6 hh; simp [h5] at hq)
              obtain rfl := p1 (by simp [he])
              obtain rfl := p2 (by simp [he])
              refine wpOp_step rfl (fun K hK => ?_)
              go_simp
              exact hK _ _ ⟨_, _, _, _, _, _, _, rfl, (by first | exact p0 | exact fun _ => rfl), (by first | exact p1 | exact fun _ => rfl), (by first | exact p2 | exact fun _ => rfl), (fun _ => rfl), (by simp [h4]), (by simp [he]), (by simp [h4]), (by simp [h5]), (by simp [h6]), (by simp [h7]), (by simpa [h4, h7, h5, h6] using hS)⟩
            · have h5 : L 5 = false := by cases hh : L 5 with | false => rfl | true => (have hq := q5 hh; simp [hi] at hq)
              have h7 : L 7 = false := by cases hh : L 7 with | false => rfl | true => (have hq := q7 hh; simp [hi] at hq)
              have h6 : L 6 = false := by cases hh : L 6 with | false => rfl | true => (have hq := q6 hh; simp [h5] at hq)
              obtain rfl := p3 (by simp [he])
              have f0 : w'.cell? ⟨b, off + a, none⟩ = some (.int .u8 (x : Int)) := by
                rw [if_neg (by simp [h7]), if_neg (by simp [h6]), if_neg (by simp [h5])] at hS
                exact (hS.below.cell hb).trans HBX.out
              refine wpOp_step rfl (fun K hK => ?_)
              go_simp
              exact hK _ _ ⟨_, _, _, _, _, _, _, rfl, (by first | exact p0 | exact fun _ => rfl), (by first | exact p1 | exact fun _ => rfl), (by first | exact p2 | exact fun _ => rfl), (by first | exact p3 | exact fun _ => rfl), (fun _ => rfl), (by simpa using q3), (by simp [he]), (by simp [h5]), (by simp [h6]), (by simp [h7]), (by simpa [h5, h7, h6] using hS)⟩
            · have h6 : L 6 = false := by cases hh : L 6 with | false => rfl | true => (have hq := q6 hh; simp [hi] at hq)
              have h7 : L 7 = false := by cases hh : L 7 with | false => rfl | true => (have hq := q7 hh; simp [hi] at hq)
              obtain rfl := p4 (by simp [he])
              rw [if_neg (by simp [h7]), if_neg (by simp [h6]), if_neg (by simp [hi])] at hS
              have hN := hS.new 5 [.int .u8 (x : Int)]
              refine wpOp_step rfl (fun K hK => ?_)
              go_simp
              exact hK _ _ ⟨_, _, _, _, _, _, _, rfl, (by first | exact p0 | exact fun _ => rfl), (by first | exact p1 | exact fun _ => rfl), (by first | exact p2 | exact fun _ => rfl), (by first | exact p3 | exact fun _ => rfl), (by first | exact p4 | exact fun _ => rfl), (by simpa using q3), (by simpa using q4), (by simp [he]), (by simp [h6]), (by simp [h7]), (by rw [if_neg (by simp [h7]), if_neg (by simp [h6]), if_pos (by simp)]; exact ⟨_, rfl, hN⟩)⟩
            · have h7 : L 7 = false := by cases hh : L 7 with | false => rfl | true => (have hq := q7 hh; simp [hi] at hq)
              obtain rfl := p0 (by simp [he])
              have t5 : L 5 = true := by simp [he]
              rw [if_neg (by simp [h7]), if_neg (by simp [hi]), if_pos t5] at hS
              obtain ⟨gv, rfl, hS⟩ := hS
              have hv0 : Rd w' w'.heap.size 1 (some ⟨gv, 0, none⟩) 1 [.int .u8 (x : Int)] := ⟨rfl, fun _ => ⟨gv, 0, rfl, Blk.lt (hS.blk 4 rfl), fun j u hj => by rw [Nat.zero_add]; exact hS.cell 4 rfl hj⟩⟩
              refine wpOp_at rfl rfl ?_
              refine oper_append_sep hS 3 (.tmp 37) (.tmp 42) 33 rfl 5 ti (.int .u8 0) 1 1 Try.underlying33 hti t0 t1 t2 rfl (by omega) _ np _ rfl rfl _ _ 1 1 _ rfl hv0 (by simp [Value.oneCell']) (by simp only [maxLen]; omega) (by omega) ?_
              intro A' c' w5 hc' _ K5
              exact ⟨_, _, _, _, _, _, _, rfl, (by first | exact p0 | exact fun _ => rfl), (by first | exact p1 | exact fun _ => rfl), (by first | exact p2 | exact fun _ => rfl), (by first | exact p3 | exact fun _ => rfl), (by first | exact p4 | exact fun _ => rfl), (by simpa using q3), (by simpa using q4), (by simpa using q5), (by simp [he]), (by simp [h7]), (by rw [if_neg (by simp [h7]), if_pos (by simp)]; exact ⟨A', c', rfl, hc', K5.pick [0, 1, 2, 3] (by decide) (by simp)⟩)⟩
            · have t5 : L 5 = true := by simp [he]
              have t6 : L 6 = true := by simp [he]
              rw [if_neg (by simp [hi]), if_pos t6] at hS
              obtain ⟨A', c', rfl, hc', hS⟩ := hS
              have e0 := hS.cell 0 rfl (k := 0) rfl
              have u0 := hS.froz 0 rfl (k := 0)
              have hN := hS.set 0 rfl (k := 0) (.slice A' (np + 1) c')
              refine wpOp_step rfl (fun K hK => ?_)
              go_simp
              exact hK _ _ ⟨_, _, _, _, _, _, _, rfl, (by first | exact p0 | exact fun _ => rfl), (by first | exact p1 | exact fun _ => rfl), (by first | exact p2 | exact fun _ => rfl), (by first | exact p3 | exact fun _ => rfl), (by first | exact p4 | exact fun _ => rfl), (by simpa using q3), (by simpa using q4), (by simpa using q5), (by simpa using q6), (by simp [he]), (by rw [if_pos (by simp)]; exact ⟨A', c', rfl, hc', hN⟩)⟩
          · rintro L ac w' ⟨x37, x38, x39, x40, x41, x42, x43, ha, p0, p1, p2, p3, p4, q3, q4, q5, q6, q7, hS⟩ hall
            have t5 := hall 5 (by decide)
            have t6 := hall 6 (by decide)
            have t7 := hall 7 (by decide)
            rw [if_pos t7] at hS
            obtain ⟨A', c', rfl, hc', hS⟩ := hS
            obtain rfl := p0 (hall 0 (by decide))
            obtain rfl := p1 (hall 1 (by decide))
            obtain rfl := p2 (hall 2 (by decide))
            obtain rfl := p3 (hall 3 (by decide))
            obtain rfl := p4 (hall 4 (by decide))
            simp only [turn, List.foldl_cons, List.foldl_nil, List.setIfInBounds_toArray, List.set_cons_succ, List.set_cons_zero] at ha
            subst ha
            clear q3 q4 q5 q6 q7 t5 t6 t7
            have HS9 : Hid (Sep w w' [.cells gp 33 [.slice A' (np + 1) c'], .cells go 33 [.slice A4 no c4], .row 5 1 (.slice A4 no c4) no (out.flatMap bcell), .row 5 1 (.slice A' (np + 1) c') (np + 1) ((p ++ [x]).flatMap bcell)]) := Lib.hid (by rw [List.flatMap_append]; exact hS)
            clear hS
            have HPL2 : Hid ((p ++ [x]).length = np + 1) := Lib.hid (by rw [List.length_append, HPL.out]; rfl)
            have f0 := HS9.out.cell 0 rfl (k := 0) rfl
            obtain ⟨np1, HNP⟩ : ∃ np1 : Nat, Hid (np1 = np + 1) := ⟨_, Lib.hid rfl⟩
            rw [← HNP.out] at HS9 HPL2 hc' f0
            have kf : ¬ (np1 : Int) = 128 := by have := HNP.out; omega
            have kf2 : ((np1 : Int) == 128) = false := by simp; omega
            have HPN : Hid (Pk (p ++ [x]) t o1) := Lib.hid (by
              rcases HQQ.out with h | h
              · exact h.2
              · have := h.1; rw [HPL.out] at this; omega)
            clear HQQ
            go_wp2
            go_roundg (n + 1 - (a + 1))
            case measure => omega
            case rel => exact ⟨a + 1, no, c4, np1, c', A4, A', out, p ++ [x], o1, by omega, by go_num, rfl, hc4, by have := HNP.out; omega, by have := HNP.out; omega, HOL, HPL2, Lib.hid (fun h => by have := HNP.out; omega), Lib.hid (by rw [HD.out]; exact HPN.out), HO, HS9.out⟩
    · have hae : a = n := by omega
      have HAE : Hid (o = out ++ fl p) := Lib.hid (by
        have h1 := HPK.out
        rw [List.drop_of_length_le (by rw [HL.out]; omega)] at h1
        cases h1
        exact HO.out)
      have i1 : ¬ (a : Int) < (n : Int) := by omega
      clear hae HPK HO
      have cF := Lib.hid (flush_any gp go no c4 np c5 A4 A5 out p w wr HS.out HPL.out HNIL.out (by omega) (by omega) hc4 HOL.out)
      go_wp2_with fail
      refine cF.out.mono ?_; rintro en w3 ⟨rfl, A6, no6, c6, hc6, hol6, hs6⟩
      have HS3 := Lib.hid hs6
      have HOL6 := Lib.hid hol6
      have d0 := hs6.cell 1 rfl (k := 0) rfl
      clear hol6 hs6 HS cF
      go_wp2
      refine bodyPost_ret (v := .tuple #[.slice A6 no6 c6, .int .i64 0]) (by simp [results, Try.results17]) rfl ?_
      unfold BytesRet
      rw [HAE.out, HOL6.out]
      exact ⟨A6, c6, hc6, rfl, HS3.out.pick [2] (by decide) (by simp)⟩
end Pr
end Go.Proofs.Ytakmfjnfkjdbfaa
