/-
  BadTells: bad.Right, Find, Number and Mark answer as the reference does, for every number of blocks, every list and every block. Conditions: none.
-/
import Derived.Test.YtakmfjnfkjdbfabBdW4
import Derived.Test.YtakmfjnfkjdbfabSrtI
import Derived.Test.YtakmfjnfkjdbfabParse
namespace Go.Proofs.Ytakmfjnfkjdbfab
open Go.ChangeShapes Go.WideShapes Go.ChangeAt Go.RowKit
set_option linter.unusedVariables false
namespace Bd

set_option maxHeartbeats 800000 in
theorem equal_ints (A A' : Option Addr) (n c c' : Nat) (l : List Int) (w : World) (hr : Rd w w.heap.size 1 A n (l.flatMap icell)) (hr' : Rd w w.heap.size 1 A' n (l.flatMap icell)) (hl : l.length = n) (hn : n ≤ 9223372036854775807) :
    Calls Try.prog 41 #[.slice A n c, .slice A' n c'] w (Ret w (.bool true)) := by
  have HR := Lib.hid hr
  have HR' := Lib.hid hr'
  have HL := Lib.hid hl
  clear hr hr' hl
  go_enter Try.func41, Try.ntmps41
  go_wp2
  go_loopg [13] n (fun g i wr => ∃ k : Nat, k ≤ n ∧ g = n - k ∧ i = .int .i64 k ∧ Below w.heap.size w wr)
  case atStart => exact ⟨0, Nat.zero_le _, rfl, rfl, Below.refl _ _⟩
  case round =>
    obtain ⟨k, hk, rfl, rfl, hB⟩ := hrel
    by_cases hlt : k < n
    · obtain ⟨b, off, rfl, hb, hc⟩ := HR.out.at_ icell_len (by omega)
      obtain ⟨b', off', rfl, hb', hc'⟩ := HR'.out.at_ icell_len (by omega)
      obtain ⟨y, hy⟩ : ∃ y, l[k]? = some y := ⟨_, List.getElem?_eq_getElem (by rw [HL.out]; exact hlt)⟩
      have d1 : ∀ z : LaterOf wr, z.w.cell? ⟨b, off + k, none⟩ = some (.int .i64 y) := fun z => z.cell ((hB.cell hb).trans (by have := hc k 0 y _ hy rfl; simpa using this))
      have d2 : ∀ z : LaterOf wr, z.w.cell? ⟨b', off' + k, none⟩ = some (.int .i64 y) := fun z => z.cell ((hB.cell hb').trans (by have := hc' k 0 y _ hy rfl; simpa using this))
      clear hc hc' hy
      have i0 : (0 : Int) ≤ (k : Int) := by omega
      have i1 : (k : Int) < (n : Int) := by omega
      go_upto_region 6 with (fail)
      refine wp_region_later (by kernel_rfl) (by kernel_rfl) ?_
      repeat (go_big_quiet_step (fail))
      refine wpQuiet_nil ?_; intro xw hw'; obtain ⟨xq, hw''⟩ := hw'; obtain ⟨xw0, xh⟩ := xq; change xw = xw0 at hw''; subst hw''
      go_wp2
      go_roundg (n - (k + 1))
      case measure => omega
      case rel => exact ⟨k + 1, by omega, rfl, by go_num, hB.trans (xh.mono hB.size)⟩
    · go_wp2
      go_ret
      exact Ret.mk rfl hB

set_option maxRecDepth 100000 in
set_option maxHeartbeats 3200000 in
theorem law_form (A : Option Addr) (n c : Nat) (B x : Int) (l : List Int) (w : World) (hr : Rd w w.heap.size 1 A n (l.flatMap icell)) (hl : l.length = n) (hn : n ≤ 9223372036854775807) (h : rightB B l = false) :
    Calls Try.prog 7 #[.int .i64 B, .slice A n c, .int .i64 x] w (Ret w (.bool true)) := by
  have cF := Lib.hid (find_any A n c B x 0 1 l w hr hl hn (.inl ⟨h, rfl, rfl⟩))
  have cN := Lib.hid (fun V (hV : Below w.heap.size w V) => number_any A n c B x _ _ _ _ _ _ l _ V (hr.later hV) hl hn (.form h))
  have cM := Lib.hid (fun V (hV : Below w.heap.size w V) => mark_any A n c B x _ _ _ _ _ _ l _ V (hr.later hV) hl hn (.form h))
  have cR := Lib.hid (fun V (hV : Below w.heap.size w V) => And.intro (right_is A n c B l V (hr.later hV) hl hn) (eright_is A n c B l V (hr.later hV) hl hn))
  rw [h] at cR
  clear hr hl h
  go_enter Try.func7, Try.ntmps7
  go_wp2_with fail
  refine cF.out.mono ?_; rintro en w1 ⟨rfl, hb1⟩
  go_wp2_with fail
  refine (cN.out _ hb1).mono ?_; rintro en w2 ⟨rfl, hb2⟩
  have hb12 := hb1.trans (hb2.mono hb1.size)
  go_wp2_with fail
  refine (cM.out _ hb12).mono ?_; rintro en w3 ⟨A3, c3, hc3, rfl, K3⟩
  have S3 := Lib.hid (((Sep.nil_ w).later hb12).join K3)
  clear hb1 hb2 hb12 K3 cF cN cM
  go_wp2_with fail
  refine (cR.out _ S3.out.below).1.mono ?_; rintro en w4 ⟨rfl, hb4⟩
  have S4 := Lib.hid (S3.out.later hb4)
  clear hb4 S3
  go_wp2_with fail
  refine (cR.out _ S4.out.below).2.mono ?_; rintro en w5 ⟨rfl, hb5⟩
  have S5 := Lib.hid (S4.out.later hb5)
  clear hb5 S4
  go_wp2_with fail
  refine (cR.out _ S5.out.below).2.mono ?_; rintro en w6 ⟨rfl, hb6⟩
  have S6 := Lib.hid (S5.out.later hb6)
  clear hb6 S5 cR
  go_wp2
  go_ret
  exact Ret.mk rfl S6.out.below

set_option maxRecDepth 100000 in
set_option maxHeartbeats 3200000 in
theorem law_range (A : Option Addr) (n c K : Nat) (x : Int) (l : List Int) (w : World) (hr : Rd w w.heap.size 1 A n (l.flatMap icell)) (hl : l.length = n) (hn : n ≤ 9223372036854775807) (h : rightB (K : Int) l = true) (hx : x < 0 ∨ (K : Int) ≤ x) :
    Calls Try.prog 7 #[.int .i64 (K : Int), .slice A n c, .int .i64 x] w (Ret w (.bool true)) := by
  obtain ⟨K', hBK, hK, hp, hll, hlk, hgl⟩ := right_facts h
  obtain rfl : K = K' := by omega
  have cF := Lib.hid (find_any A n c (K : Int) x 0 3 l w hr hl hn (.inr (.inl ⟨h, by omega, rfl, rfl⟩)))
  have cN := Lib.hid (fun V (hV : Below w.heap.size w V) => number_any A n c (K : Int) x _ _ _ _ _ _ l _ V (hr.later hV) hl hn (.range h hx))
  have cM := Lib.hid (fun V (hV : Below w.heap.size w V) => mark_any A n c (K : Int) x _ _ _ _ _ _ l _ V (hr.later hV) hl hn (.range h hx))
  have cR := Lib.hid (fun V (hV : Below w.heap.size w V) => And.intro (right_is A n c (K : Int) l V (hr.later hV) hl hn) (eright_is A n c (K : Int) l V (hr.later hV) hl hn))
  have cG := Lib.hid (fun V (hV : Below w.heap.size w V) => egood_any A n c K l V (hr.later hV) hl hn hK)
  rw [h] at cR
  obtain ⟨m, hm⟩ : ∃ m, m = (good l K).length := ⟨_, rfl⟩
  rw [← hm] at cG hgl
  have hmk : m ≤ K := by omega
  by_cases hx0 : x < 0
  · clear hr hl h hBK hp hll hlk hgl hm hx
    go_enter Try.func7, Try.ntmps7
    go_wp2_with fail
    refine cF.out.mono ?_; rintro en w1 ⟨rfl, hb1⟩
    go_wp2_with fail
    refine (cN.out _ hb1).mono ?_; rintro en w2 ⟨rfl, hb2⟩
    have hb12 := hb1.trans (hb2.mono hb1.size)
    go_wp2_with fail
    refine (cM.out _ hb12).mono ?_; rintro en w3 ⟨A3, c3, hc3, rfl, K3⟩
    have S3 := Lib.hid (((Sep.nil_ w).later hb12).join K3)
    clear hb1 hb2 hb12 K3 cF cN cM
    go_wp2_with fail
    refine (cR.out _ S3.out.below).1.mono ?_; rintro en w4 ⟨rfl, hb4⟩
    have S4 := Lib.hid (S3.out.later hb4)
    clear hb4 S3
    go_wp2_with fail
    refine (cR.out _ S4.out.below).2.mono ?_; rintro en w5 ⟨rfl, hb5⟩
    have S5 := Lib.hid (S4.out.later hb5)
    clear hb5 S4
    go_wp2_with fail
    refine (cR.out _ S5.out.below).2.mono ?_; rintro en w6 ⟨rfl, hb6⟩
    have S6 := Lib.hid (S5.out.later hb6)
    clear hb6 S5 cR
    go_wp2_with fail
    refine (cG.out _ S6.out.below).mono ?_; rintro en w7 ⟨A7, c7, hc7, rfl, K7⟩
    have S7 := Lib.hid (S6.out.join K7)
    clear K7 S6 cG
    go_wp2
    go_ret
    exact Ret.mk rfl S7.out.below
  · have hx1 : (K : Int) ≤ x := by omega
    have hx2 : (m : Int) ≤ x := by omega
    clear hr hl h hBK hp hll hlk hgl hm hx
    go_enter Try.func7, Try.ntmps7
    go_wp2_with fail
    refine cF.out.mono ?_; rintro en w1 ⟨rfl, hb1⟩
    go_wp2_with fail
    refine (cN.out _ hb1).mono ?_; rintro en w2 ⟨rfl, hb2⟩
    have hb12 := hb1.trans (hb2.mono hb1.size)
    go_wp2_with fail
    refine (cM.out _ hb12).mono ?_; rintro en w3 ⟨A3, c3, hc3, rfl, K3⟩
    have S3 := Lib.hid (((Sep.nil_ w).later hb12).join K3)
    clear hb1 hb2 hb12 K3 cF cN cM
    go_wp2_with fail
    refine (cR.out _ S3.out.below).1.mono ?_; rintro en w4 ⟨rfl, hb4⟩
    have S4 := Lib.hid (S3.out.later hb4)
    clear hb4 S3
    go_wp2_with fail
    refine (cR.out _ S4.out.below).2.mono ?_; rintro en w5 ⟨rfl, hb5⟩
    have S5 := Lib.hid (S4.out.later hb5)
    clear hb5 S4
    go_wp2_with fail
    refine (cR.out _ S5.out.below).2.mono ?_; rintro en w6 ⟨rfl, hb6⟩
    have S6 := Lib.hid (S5.out.later hb6)
    clear hb6 S5 cR
    go_wp2_with fail
    refine (cG.out _ S6.out.below).mono ?_; rintro en w7 ⟨A7, c7, hc7, rfl, K7⟩
    have S7 := Lib.hid (S6.out.join K7)
    clear K7 S6 cG
    go_wp2
    go_ret
    exact Ret.mk rfl S7.out.below

def MRet (w : World) (N : Nat) (out : List Int) (e : Int) (en : Ending) (w' : World) : Prop :=
  ∃ A c, N ≤ c ∧ en = .returned (.tuple #[.slice A N c, .int .i64 e]) ∧ Sep w w' [.row 3 1 (.slice A N c) N (out.flatMap icell)]
theorem MarkRet.len {w w' : World} {out : List Int} {e : Int} {en : Ending} {N : Nat} (h : MarkRet w out e en w') (hN : out.length = N) : MRet w N out e en w' := by
  subst hN
  exact h

set_option maxRecDepth 100000 in
set_option maxHeartbeats 6400000 in
theorem law_in (A : Option Addr) (n c K xn : Nat) (l : List Int) (w : World) (hr : Rd w w.heap.size 1 A n (l.flatMap icell)) (hl : l.length = n) (hn : n ≤ 9223372036854775807) (h : rightB (K : Int) l = true) (hx : xn < K) :
    Calls Try.prog 7 #[.int .i64 (K : Int), .slice A n c, .int .i64 (xn : Int)] w (Ret w (.bool true)) := by
  obtain ⟨ti, hti, t0, t1, t2⟩ := info_parts int_info
  obtain ⟨K', hBK, hK, hp, hll, hlk, hgl⟩ := right_facts h
  obtain rfl : K = K' := by omega
  have hn4 : n ≤ 4096 := by omega
  obtain ⟨m, hm⟩ : ∃ m, m = (good l K).length := ⟨_, rfl⟩
  have HM := Lib.hid hm.symm
  rw [← hm] at hgl
  have hmk : m ≤ K := by omega
  have cR := Lib.hid (fun V (hV : Below w.heap.size w V) => And.intro (right_is A n c (K : Int) l V (hr.later hV) hl hn) (eright_is A n c (K : Int) l V (hr.later hV) hl hn))
  have cG := Lib.hid (fun V (hV : Below w.heap.size w V) => egood_any A n c K l V (hr.later hV) hl hn hK)
  rw [← hm] at cG
  obtain ⟨r1, e1, cF, hF⟩ : ∃ r1 e1, Hid (Calls Try.prog 31 #[.int .i64 (K : Int), .slice A n c, .int .i64 (xn : Int)] w (Ret w (.tuple #[.int .i64 r1, .int .i64 e1]))) ∧ ((m ≤ xn ∧ r1 = 0 ∧ e1 = 3) ∨ (xn < m ∧ e1 = 0 ∧ Hid ((good l K)[xn]? = some r1))) := by
    by_cases hlt : xn < m
    · refine ⟨adv (xn : Int) l, 0, Lib.hid (find_any A n c (K : Int) (xn : Int) _ _ l w hr hl hn (.inr (.inr ⟨h, by omega, by omega, rfl, rfl⟩))), .inr ⟨hlt, rfl, Lib.hid ?_⟩⟩
      obtain ⟨ha1, ha2⟩ := adv_lt h (show (0 : Int) ≤ (xn : Int) by omega) (by omega)
      obtain ⟨hs1, hs2⟩ := adv_spec l (xn : Int) hp
      obtain ⟨rn, hrn⟩ := Int.eq_ofNat_of_zero_le ha2
      rw [hrn] at hs1 hs2 ha1 ⊢
      have h1 := good_len hp (fun x hx => (hll x hx).1) rn
      have h2 : (good l rn).length = xn := by omega
      have h3 := good_at (k := K) hs1 (by omega)
      rw [h2] at h3
      exact h3
    · exact ⟨0, 3, Lib.hid (find_any A n c (K : Int) (xn : Int) _ _ l w hr hl hn (.inr (.inl ⟨h, .inr (by omega), rfl, rfl⟩))), .inl ⟨by omega, rfl, rfl⟩⟩
  have HL := Lib.hid hl
  have x0 : ¬ (xn : Int) < 0 := by omega
  have x1 : ¬ K ≤ xn := by omega
  rw [h] at cR
  by_cases hmem : (xn : Int) ∈ l
  · have cN := Lib.hid (fun V (hV : Below w.heap.size w V) => number_any A n c (K : Int) (xn : Int) _ _ _ _ _ _ l _ V (hr.later hV) hl hn (.held h (by omega) (by omega) hmem))
    have cM := Lib.hid (fun V (hV : Below w.heap.size w V) => (mark_any A n c (K : Int) (xn : Int) _ _ _ _ _ _ l _ V (hr.later hV) hl hn (.held h (by omega) (by omega) hmem)).mono fun _ _ hh => hh.len (N := 0) rfl)
    have cC := Lib.hid (fun V (hV : Below w.heap.size w V) => contains_any A n c l (xn : Int) true V (hr.later hV) hl hn ⟨fun _ => hmem, fun _ => rfl⟩)
    clear hr hl h hBK hp hll hlk hgl hm hmem
    rcases hF with ⟨hmx, rfl, rfl⟩ | ⟨hmx, rfl, HG⟩
    · go_enter Try.func7, Try.ntmps7
      go_wp2_with fail
      refine cF.out.mono ?_; rintro en w1 ⟨rfl, hb1⟩
      go_wp2_with fail
      refine (cN.out _ hb1).mono ?_; rintro en w2 ⟨rfl, hb2⟩
      have hb12 := hb1.trans (hb2.mono hb1.size)
      go_wp2_with fail
      refine (cM.out _ hb12).mono ?_; rintro en w3 ⟨A3, c3, hc3, rfl, K3⟩
      have S3 := Lib.hid (((Sep.nil_ w).later hb12).join K3)
      clear hb1 hb2 hb12 K3 cF cN cM
      go_wp2_with fail
      refine (cR.out _ S3.out.below).1.mono ?_; rintro en w4 ⟨rfl, hb4⟩
      have S4 := Lib.hid (S3.out.later hb4)
      clear hb4 S3
      go_wp2_with fail
      refine (cR.out _ S4.out.below).2.mono ?_; rintro en w5 ⟨rfl, hb5⟩
      have S5 := Lib.hid (S4.out.later hb5)
      clear hb5 S4
      go_wp2_with fail
      refine (cR.out _ S5.out.below).2.mono ?_; rintro en w6 ⟨rfl, hb6⟩
      have S6 := Lib.hid (S5.out.later hb6)
      clear hb6 S5 cR
      go_wp2_with fail
      refine (cG.out _ S6.out.below).mono ?_; rintro en w7 ⟨A7, c7, hc7, rfl, K7⟩
      have S7 := Lib.hid (S6.out.join K7)
      clear K7 S6 cG
      go_wp2_with fail
      refine (cC.out _ S7.out.below).mono ?_; rintro en w8 ⟨rfl, hb8⟩
      have S8 := Lib.hid (S7.out.later hb8)
      clear hb8 S7 cC
      go_wp2
      go_ret
      exact Ret.mk rfl S8.out.below
    · have hmx2 : ¬ m ≤ xn := by omega
      have hmx3 : (xn : Int) < (m : Int) := by omega
      go_enter Try.func7, Try.ntmps7
      go_wp2_with fail
      refine cF.out.mono ?_; rintro en w1 ⟨rfl, hb1⟩
      go_wp2_with fail
      refine (cN.out _ hb1).mono ?_; rintro en w2 ⟨rfl, hb2⟩
      have hb12 := hb1.trans (hb2.mono hb1.size)
      go_wp2_with fail
      refine (cM.out _ hb12).mono ?_; rintro en w3 ⟨A3, c3, hc3, rfl, K3⟩
      have S3 := Lib.hid (((Sep.nil_ w).later hb12).join K3)
      clear hb1 hb2 hb12 K3 cF cN cM
      go_wp2_with fail
      refine (cR.out _ S3.out.below).1.mono ?_; rintro en w4 ⟨rfl, hb4⟩
      have S4 := Lib.hid (S3.out.later hb4)
      clear hb4 S3
      go_wp2_with fail
      refine (cR.out _ S4.out.below).2.mono ?_; rintro en w5 ⟨rfl, hb5⟩
      have S5 := Lib.hid (S4.out.later hb5)
      clear hb5 S4
      go_wp2_with fail
      refine (cR.out _ S5.out.below).2.mono ?_; rintro en w6 ⟨rfl, hb6⟩
      have S6 := Lib.hid (S5.out.later hb6)
      clear hb6 S5 cR
      go_wp2_with fail
      refine (cG.out _ S6.out.below).mono ?_; rintro en w7 ⟨A7, c7, hc7, rfl, K7⟩
      have S7 := Lib.hid (S6.out.join K7)
      clear K7 S6 cG
      obtain ⟨g7, rfl, _, hat⟩ := S7.out.rowAt 1 rfl (by omega)
      have d0 := (hat xn).1 (.int .i64 r1) (by rw [icell_at, HG.out]; rfl)
      clear hat
      go_wp2_with fail
      refine (cC.out _ S7.out.below).mono ?_; rintro en w8 ⟨rfl, hb8⟩
      have S8 := Lib.hid (S7.out.later hb8)
      clear hb8 S7 cC
      go_wp2
      go_ret
      exact Ret.mk rfl S8.out.below
  · have hcx : FirstAt (good l K) (xn : Int) ((xn : Int) - (cnt l (xn : Int) : Nat)) := by
      have h1 := good_len hp (fun x hx => (hll x hx).1) xn
      refine .inl ⟨(good l xn).length, by omega, good_at hmem hx, fun j hj => good_first j hj (by omega)⟩
    have hso := sort_put hp hmem
    have hol : (l.take (cnt l (xn : Int)) ++ (xn : Int) :: l.drop (cnt l (xn : Int))).length = n + 1 := by
      have := cnt_le l (xn : Int)
      simp
      omega
    have cN := Lib.hid (fun V (hV : Below w.heap.size w V) => number_any A n c (K : Int) (xn : Int) _ _ _ _ _ _ l _ V (hr.later hV) hl hn (.yes h (by omega) (by omega) hmem))
    have cM := Lib.hid (fun V (hV : Below w.heap.size w V) => (mark_any A n c (K : Int) (xn : Int) _ _ _ _ _ _ l _ V (hr.later hV) hl hn (.yes h (by omega) (by omega) hmem)).mono fun _ _ hh => hh.len hol)
    have cC := Lib.hid (fun V (hV : Below w.heap.size w V) => contains_any A n c l (xn : Int) false V (hr.later hV) hl hn ⟨fun e => (by cases e), fun e => absurd e hmem⟩)
    have cL := Lib.hid (fun V (hV : Below w.heap.size w V) => clone_any A n c (l.flatMap icell) V (hr.later hV) (icell_one' l) (by omega) (by omega))
    generalize hr2 : (xn : Int) - (cnt l (xn : Int) : Nat) = r2 at cN hcx
    generalize hout : l.take (cnt l (xn : Int)) ++ (xn : Int) :: l.drop (cnt l (xn : Int)) = out at cM hol hso
    have HXI := Lib.hid hcx
    have HSO := Lib.hid hso
    have HOL := Lib.hid hol
    clear hr hl h hBK hp hll hlk hgl hm hmem hr2 hout hcx hso hol
    rcases hF with ⟨hmx, rfl, rfl⟩ | ⟨hmx, rfl, HG⟩
    · go_enter Try.func7, Try.ntmps7
      go_wp2_with fail
      refine cF.out.mono ?_; rintro en w1 ⟨rfl, hb1⟩
      go_wp2_with fail
      refine (cN.out _ hb1).mono ?_; rintro en w2 ⟨rfl, hb2⟩
      have hb12 := hb1.trans (hb2.mono hb1.size)
      go_wp2_with fail
      refine (cM.out _ hb12).mono ?_; rintro en w3 ⟨A3, c3, hc3, rfl, K3⟩
      have S3 := Lib.hid (((Sep.nil_ w).later hb12).join K3)
      clear hb1 hb2 hb12 K3 cF cN cM
      go_wp2_with fail
      refine (cR.out _ S3.out.below).1.mono ?_; rintro en w4 ⟨rfl, hb4⟩
      have S4 := Lib.hid (S3.out.later hb4)
      clear hb4 S3
      go_wp2_with fail
      refine (cR.out _ S4.out.below).2.mono ?_; rintro en w5 ⟨rfl, hb5⟩
      have S5 := Lib.hid (S4.out.later hb5)
      clear hb5 S4
      go_wp2_with fail
      refine (cR.out _ S5.out.below).2.mono ?_; rintro en w6 ⟨rfl, hb6⟩
      have S6 := Lib.hid (S5.out.later hb6)
      clear hb6 S5 cR
      go_wp2_with fail
      refine (cG.out _ S6.out.below).mono ?_; rintro en w7 ⟨A7, c7, hc7, rfl, K7⟩
      have S7 := Lib.hid (S6.out.join K7)
      clear K7 S6 cG
      go_wp2_with fail
      refine (cC.out _ S7.out.below).mono ?_; rintro en w8 ⟨rfl, hb8⟩
      have S8 := Lib.hid (S7.out.later hb8)
      clear hb8 S7 cC
      go_wp2_with fail
      refine (cL.out _ S8.out.below).mono ?_; rintro en w9 ⟨A9, c9, hc9, rfl, K9⟩
      have S9 := Lib.hid (S8.out.join K9)
      have hnew := Lib.hid (Rd.of_own (own_new w9 3 #[.int .i64 (xn : Int)] 1 1 rfl (by simp [maxLen]) (Nat.le_refl _)))
      clear K9 S8 cL
      go_wp2_with (at_builtin; refine wpList_append_sep (S9.out.alloc _) 2 rfl (.tmp 140) (.tmp 142) 24 rfl 3 ti (.int .i64 0) 1 8 Try.underlying24 hti t0 t1 t2 rfl (by omega) _ n _ rfl rfl _ _ 1 1 _ rfl hnew.out (by simp [Value.oneCell']) (by simp only [maxLen]; omega) (by omega) ?_; intro A10 c10 w10 hc10 hs10 H10'; have H10 := Lib.hid H10'; clear H10')
      have S10 : Hid (Sep w w10 (.row 3 1 (.slice A10 (n + 1) c10) (n + 1) ((l ++ [(xn : Int)]).flatMap icell) :: [.row 3 1 (.slice A3 (n + 1) c3) (n + 1) (out.flatMap icell), .row 3 1 (.slice A7 m c7) m ((good l K).flatMap icell)])) := Lib.hid (by
        have := H10.out.pick [2, 0, 1] (by decide) (by simp)
        rw [List.flatMap_append]
        exact this)
      clear H10 S9 hnew
      refine (sort_any w w10 _ A10 (n + 1) c10 (l ++ [(xn : Int)]) S10.out (by rw [List.length_append, HL.out]; rfl) (by omega) (by omega)).mono ?_
      rintro en w11 ⟨rfl, K11⟩
      rw [HSO.out] at K11
      have S11 := Lib.hid K11
      clear K11 S10
      have cI := Lib.hid (index_any A7 m c7 (good l K) (xn : Int) r2 w11 (S11.out.rd 2 rfl) HM.out (by omega) HXI.out)
      go_wp2_with fail
      refine cI.out.mono ?_; rintro en w12 ⟨rfl, hb12⟩
      have S12 := Lib.hid (S11.out.later hb12)
      clear cI hb12 S11
      have cE := Lib.hid (equal_ints A3 A10 (n + 1) c3 c10 out w12 (S12.out.rd 1 rfl) (S12.out.rd 0 rfl) HOL.out (by omega))
      go_wp2_with fail
      refine cE.out.mono ?_; rintro en w13 ⟨rfl, hb13⟩
      have S13 := Lib.hid (S12.out.later hb13)
      clear cE hb13 S12
      go_wp2
      go_ret
      exact Ret.mk rfl S13.out.below
    · have hmx2 : ¬ m ≤ xn := by omega
      have hmx3 : (xn : Int) < (m : Int) := by omega
      go_enter Try.func7, Try.ntmps7
      go_wp2_with fail
      refine cF.out.mono ?_; rintro en w1 ⟨rfl, hb1⟩
      go_wp2_with fail
      refine (cN.out _ hb1).mono ?_; rintro en w2 ⟨rfl, hb2⟩
      have hb12 := hb1.trans (hb2.mono hb1.size)
      go_wp2_with fail
      refine (cM.out _ hb12).mono ?_; rintro en w3 ⟨A3, c3, hc3, rfl, K3⟩
      have S3 := Lib.hid (((Sep.nil_ w).later hb12).join K3)
      clear hb1 hb2 hb12 K3 cF cN cM
      go_wp2_with fail
      refine (cR.out _ S3.out.below).1.mono ?_; rintro en w4 ⟨rfl, hb4⟩
      have S4 := Lib.hid (S3.out.later hb4)
      clear hb4 S3
      go_wp2_with fail
      refine (cR.out _ S4.out.below).2.mono ?_; rintro en w5 ⟨rfl, hb5⟩
      have S5 := Lib.hid (S4.out.later hb5)
      clear hb5 S4
      go_wp2_with fail
      refine (cR.out _ S5.out.below).2.mono ?_; rintro en w6 ⟨rfl, hb6⟩
      have S6 := Lib.hid (S5.out.later hb6)
      clear hb6 S5 cR
      go_wp2_with fail
      refine (cG.out _ S6.out.below).mono ?_; rintro en w7 ⟨A7, c7, hc7, rfl, K7⟩
      have S7 := Lib.hid (S6.out.join K7)
      clear K7 S6 cG
      obtain ⟨g7, rfl, _, hat⟩ := S7.out.rowAt 1 rfl (by omega)
      have d0 := (hat xn).1 (.int .i64 r1) (by rw [icell_at, HG.out]; rfl)
      clear hat
      go_wp2_with fail
      refine (cC.out _ S7.out.below).mono ?_; rintro en w8 ⟨rfl, hb8⟩
      have S8 := Lib.hid (S7.out.later hb8)
      clear hb8 S7 cC
      go_wp2_with fail
      refine (cL.out _ S8.out.below).mono ?_; rintro en w9 ⟨A9, c9, hc9, rfl, K9⟩
      have S9 := Lib.hid (S8.out.join K9)
      have hnew := Lib.hid (Rd.of_own (own_new w9 3 #[.int .i64 (xn : Int)] 1 1 rfl (by simp [maxLen]) (Nat.le_refl _)))
      clear K9 S8 cL
      go_wp2_with (at_builtin; refine wpList_append_sep (S9.out.alloc _) 2 rfl (.tmp 140) (.tmp 142) 24 rfl 3 ti (.int .i64 0) 1 8 Try.underlying24 hti t0 t1 t2 rfl (by omega) _ n _ rfl rfl _ _ 1 1 _ rfl hnew.out (by simp [Value.oneCell']) (by simp only [maxLen]; omega) (by omega) ?_; intro A10 c10 w10 hc10 hs10 H10'; have H10 := Lib.hid H10'; clear H10')
      have S10 : Hid (Sep w w10 (.row 3 1 (.slice A10 (n + 1) c10) (n + 1) ((l ++ [(xn : Int)]).flatMap icell) :: [.row 3 1 (.slice A3 (n + 1) c3) (n + 1) (out.flatMap icell), .row 3 1 (.slice (some ⟨g7, 0, none⟩) m c7) m ((good l K).flatMap icell)])) := Lib.hid (by
        have := H10.out.pick [2, 0, 1] (by decide) (by simp)
        rw [List.flatMap_append]
        exact this)
      clear H10 S9 hnew
      refine (sort_any w w10 _ A10 (n + 1) c10 (l ++ [(xn : Int)]) S10.out (by rw [List.length_append, HL.out]; rfl) (by omega) (by omega)).mono ?_
      rintro en w11 ⟨rfl, K11⟩
      rw [HSO.out] at K11
      have S11 := Lib.hid K11
      clear K11 S10
      have cI := Lib.hid (index_any (some ⟨g7, 0, none⟩) m c7 (good l K) (xn : Int) r2 w11 (S11.out.rd 2 rfl) HM.out (by omega) HXI.out)
      go_wp2_with fail
      refine cI.out.mono ?_; rintro en w12 ⟨rfl, hb12⟩
      have S12 := Lib.hid (S11.out.later hb12)
      clear cI hb12 S11
      have cE := Lib.hid (equal_ints A3 A10 (n + 1) c3 c10 out w12 (S12.out.rd 1 rfl) (S12.out.rd 0 rfl) HOL.out (by omega))
      go_wp2_with fail
      refine cE.out.mono ?_; rintro en w13 ⟨rfl, hb13⟩
      have S13 := Lib.hid (S12.out.later hb13)
      clear cE hb13 S12
      go_wp2
      go_ret
      exact Ret.mk rfl S13.out.below

theorem badTells_walk (A : Option Addr) (n c : Nat) (B x : Int) (l : List Int) (w : World) (hr : Rd w w.heap.size 1 A n (l.flatMap icell)) (hl : l.length = n) (hn : n ≤ 9223372036854775807) :
    Calls Try.prog 7 #[.int .i64 B, .slice A n c, .int .i64 x] w (Ret w (.bool true)) := by
  cases h : rightB B l with
  | false => exact law_form A n c B x l w hr hl hn h
  | true =>
    obtain ⟨K, rfl, _⟩ := right_facts h
    by_cases hx : x < 0 ∨ (K : Int) ≤ x
    · exact law_range A n c K x l w hr hl hn h hx
    · obtain ⟨xn, rfl⟩ := Int.eq_ofNat_of_zero_le (show 0 ≤ x by omega)
      exact law_in A n c K xn l w hr hl hn h (by omega)

theorem int_cells : Try.prog.cellsOf 3 = 1 := by kernel_rfl
theorem int_parse {H : Type} {enc : TypeId × Value → H} {w : World} {base : Nat} {spare : Nat → Bool} {held : Bool} (n : Nat) (cs : List Value) (y : DataW H × List MemPlace)
    (h : DataW.trod enc Try.prog w base spare held n 3 cs = some y) : ∃ x : Int, cs = icell x ∧ True := by
  obtain ⟨n, hn, _, hw⟩ := DataW.trod_int Try.underlying3 h
  exact ⟨n, hn, trivial⟩

set_option maxRecDepth 100000 in
set_option maxHeartbeats 400000 in
theorem badTells_lifted (os : Os) (started : os.Started) (H : Type) (enc : TypeId × Value → H) :
    ReturnsInHanded {} Try.checked os 7 .any (Rows.badTellsSpec.pre6 enc Try.prog Try.f7 Rows.badTellsRow.domain false)
      (Rows.badTellsSpec.post enc Try.prog Try.f7 false true false false) := by
  refine returnsInHanded_of_change (C := Try.checked) own started (by kernel_rfl) Try.func7
    (ChangeSpec.witness6 (enc := enc) (C := Try.checked) false ⟨#[], #[.int .i64 0, .slice none 0 0, .int .i64 0], []⟩ 8 (by kernel_rfl) (by kernel_rfl) (by kernel_rfl) (by kernel_rfl)) ?_
  intro W base args ds gs before hval0 hW hcnd _
  have hval : ∀ (j : Nat) t v, Try.f7.params[j]? = some t → args[j]? = some v → Value.okWide Try.prog W .any base t v := hval0
  have hW0 := hW
  obtain ⟨p, q, hA0, hV, _, _, _⟩ := hW
  have hA : DataW.TrodAll enc Try.prog W 0 (fun _ => true) true Try.f7.params.toList args.toList ds p := hA0
  rw [Try.params7] at hA hval
  obtain ⟨v0, vs0, d0, ds0, p0, q0, hargs, rfl, rfl, h0, r0⟩ := trodAll_cons hA
  obtain ⟨v1, vs1, d1, ds1, p1, q1, rfl, rfl, rfl, h1, r1⟩ := trodAll_cons r0
  obtain ⟨v2, vs2, d2, ds2, p2, q2, rfl, rfl, rfl, h2, r2⟩ := trodAll_cons r1
  obtain ⟨rfl, rfl, rfl⟩ := trodAll_nil r2
  obtain rfl : args = #[v0, v1, v2] := by cases args; simp_all
  obtain ⟨B, rfl, rfl, rfl, _⟩ := open_int Try.underlying3 (hval 0 _ v0 rfl rfl) h0
  obtain ⟨x, rfl, rfl, rfl, _⟩ := open_int Try.underlying3 (hval 2 _ v2 rfl rfl) h2
  obtain ⟨fu1, hf1⟩ := h1
  obtain ⟨A, n, cap, l, hcs, hl, hnc, hcm, _, hrd, _, _⟩ := open_list icell (fun _ => True) Try.underlying24 int_cells icell_len (by omega) int_parse hf1
  obtain rfl := slice_of hcs (okWide_slice Try.underlying24 (hval 1 _ v1 rfl rfl))
  unfold maxLen at hcm
  refine (badTells_walk A n cap B x l W hrd hl (by omega)).mono fun e W' ⟨he, hg⟩ => ⟨_, he, ?_⟩
  exact law_post laidOut Try.underlying4 rfl rfl (by kernel_rfl) (fun xs hx => by
    match xs, hx with
    | [_, _, _], _ => rfl) hW0 hg
theorem badTells_over : Rows.badTellsRow.holds Try.pinned (OpenSpec.ofChange Rows.badTellsSpec) :=
  OpenClaim.holds_of_wide 7 Try.f7 rfl rfl rfl rfl rfl rfl rfl ⟨rfl, rfl, rfl, rfl, rfl⟩ rfl rfl rfl rfl rfl (by kernel_rfl) Try.func7 (by kernel_rfl)
    (of_decide_eq_true (by kernel_rfl)) (by unfold Func.isWrapper; first | (rw [if_pos (by decide +kernel)]; kernel_rfl) | (rw [if_neg (by decide +kernel)]; exact ⟨rfl, rfl⟩))
    (fun os started H enc _ => badTells_lifted os started H enc)
theorem badTells_holds : Rows.BadTellsSaid := badTells_over
end Bd
theorem badTells_holds : Rows.BadTellsSaid := Bd.badTells_holds
end Go.Proofs.Ytakmfjnfkjdbfab
