/-
  Walks of bad.Number and bad.Mark. Conditions: none.
-/
import Derived.Test.YtakmfjnfkjdbfabBdW3
import Derived.Test.YtakmfjnfkjdbfabIns
import Derived.Lib.SliceRun
namespace Go.Proofs.Ytakmfjnfkjdbfab
open Go.RowKit
set_option linter.unusedVariables false
namespace Bd

set_option maxHeartbeats 800000 in
theorem clone_any (A : Option Addr) (n c : Nat) (xs : List Value) (w : World) (hr : Rd w w.heap.size 1 A n xs) (h1 : ∀ u ∈ xs, u.oneCell' = true) (hn : n * 8 ≤ 140737488355328) (hm : n ≤ 9223372036854775807) :
    Calls Try.prog 38 #[.slice A n c] w (SliceRet w 3 1 n xs) := by
  obtain ⟨ti, hti, t0, t1, t2⟩ := info_parts int_info
  have HR := Lib.hid hr
  have H1 := Lib.hid h1
  have hnil : ∀ w, (binOp .eql 24 (.slice A n c) (.slice none 0 0)).run Try.prog w = .ok (.bool A.isNone) w := fun w => Lib.run_eql_slice_nil w 24 3 A n c 0 0 Try.underlying24
  clear hr h1
  cases A with
  | none =>
    obtain rfl : n = 0 := by
      rcases Nat.eq_zero_or_pos n with h | h
      · exact h
      · obtain ⟨b, off, hA, _⟩ := HR.out.2 h; cases hA
    obtain rfl : xs = [] := List.eq_nil_of_length_eq_zero (by have := HR.out.1; omega)
    have hnil' : ∀ w, (binOp .eql 24 (.slice none 0 c) (.slice none 0 0)).run Try.prog w = .ok (.bool true) w := hnil
    clear hnil
    go_enter Try.func38, Try.ntmps38
    go_wp2
    go_ret
    exact ⟨none, 0, Nat.le_refl _, rfl, (Sep.nil_ w).nilRow 3 1 none⟩
  | some a =>
    have hnil' : ∀ w, (binOp .eql 24 (.slice (some a) n c) (.slice none 0 0)).run Try.prog w = .ok (.bool false) w := hnil
    clear hnil
    have HS0 : Hid (Sep w (w.alloc (.cells #[] 3)) [.row 3 1 (.slice (some ⟨w.heap.size, 0, none⟩) 0 0) 0 []]) := Lib.hid (((Sep.nil_ w).alloc _).nilRow 3 1 _)
    have HRs := Lib.hid (HR.out.later HS0.out.below)
    go_enter Try.func38, Try.ntmps38
    go_wp2_with (at_builtin; refine wpList_append_sep HS0.out 0 rfl (.tmp 5) (.tmp 6) 24 rfl 3 ti (.int .i64 0) 1 8 Try.underlying24 hti t0 t1 t2 rfl (by omega) _ 0 _ rfl rfl _ _ n c _ rfl HRs.out H1.out (by simp only [maxLen]; omega) (by omega) ?_; intro A6 c6 w3 hc6 hs3 HA)
    go_ret
    simp only [Nat.zero_add, List.nil_append] at HA hc6 ⊢
    exact ⟨A6, c6, hc6, rfl, HA⟩
theorem Row.capLe {w : World} {E size n c : Nat} {A : Option Addr} {xs : List Value} (h : Row w E size (.slice A n c) n xs) : c ≤ maxLen := by
  rcases h.2 with ⟨_, h2 | ⟨a, h2⟩⟩ | ⟨g, cap, cur, hv, _, _, hm, _⟩
  · cases h2; exact Nat.zero_le _
  · cases h2; exact Nat.zero_le _
  · cases hv; exact hm

/-- what check tells, and what Number and Mark make of it: Number's number and error, Mark's list and error -/
inductive Tells (B x : Int) (l : List Int) : Int → Bool → Int → Int → Int → List Int → Int → Prop
  | form (h : rightB B l = false) : Tells B x l 0 false 1 0 1 [] 1
  | range (h : rightB B l = true) (h2 : x < 0 ∨ B ≤ x) : Tells B x l 0 false 2 0 2 [] 2
  | held (h : rightB B l = true) (h0 : 0 ≤ x) (h1 : x < B) (hm : x ∈ l) : Tells B x l (cnt l x : Nat) true 0 0 8 [] 6
  | yes (h : rightB B l = true) (h0 : 0 ≤ x) (h1 : x < B) (hm : x ∉ l) : Tells B x l (cnt l x : Nat) false 0 (x - (cnt l x : Nat)) 0 (l.take (cnt l x) ++ x :: l.drop (cnt l x)) 0
theorem tells_check {B x a e r e2 e3 : Int} {is : Bool} {l out : List Int} (h : Tells B x l a is e r e2 out e3) :
    (rightB B l = false ∧ a = 0 ∧ is = false ∧ e = 1) ∨ (rightB B l = true ∧ (x < 0 ∨ B ≤ x) ∧ a = 0 ∧ is = false ∧ e = 2) ∨ (rightB B l = true ∧ 0 ≤ x ∧ x < B ∧ a = (cnt l x : Nat) ∧ is = l.contains x ∧ e = 0) := by
  cases h with
  | form h => exact .inl ⟨h, rfl, rfl, rfl⟩
  | range h h2 => exact .inr (.inl ⟨h, h2, rfl, rfl, rfl⟩)
  | held h h0 h1 hm => exact .inr (.inr ⟨h, h0, h1, rfl, by simpa using hm, rfl⟩)
  | yes h h0 h1 hm => exact .inr (.inr ⟨h, h0, h1, rfl, by simpa using hm, rfl⟩)

set_option maxRecDepth 100000 in
set_option maxHeartbeats 1600000 in
theorem number_any (A : Option Addr) (n c : Nat) (B x a e r e2 e3 : Int) (is : Bool) (l out : List Int) (w : World) (hr : Rd w w.heap.size 1 A n (l.flatMap icell)) (hl : l.length = n) (hn : n ≤ 9223372036854775807) (ht : Tells B x l a is e r e2 out e3) :
    Calls Try.prog 32 #[.int .i64 B, .slice A n c, .int .i64 x] w (Ret w (.tuple #[.int .i64 r, .int .i64 e2])) := by
  have cK := Lib.hid (check_any A n c B x a e is l w hr hl hn (tells_check ht))
  clear hr
  cases ht with
  | form h =>
    clear h hl
    go_enter Try.func32, Try.ntmps32
    go_wp2_with fail
    refine cK.out.mono ?_; rintro en w1 ⟨rfl, hb1⟩
    go_wp2
    refine bodyPost_ret (v := .tuple #[.int .i64 (0), .int .i64 1]) (by simp [results, Try.results32]) rfl ?_
    exact Ret.mk rfl hb1
  | range h h2 =>
    clear h h2 hl
    go_enter Try.func32, Try.ntmps32
    go_wp2_with fail
    refine cK.out.mono ?_; rintro en w1 ⟨rfl, hb1⟩
    go_wp2
    refine bodyPost_ret (v := .tuple #[.int .i64 (0), .int .i64 2]) (by simp [results, Try.results32]) rfl ?_
    exact Ret.mk rfl hb1
  | held h h0 h1 hm =>
    clear h h0 h1 hm hl
    go_enter Try.func32, Try.ntmps32
    go_wp2_with fail
    refine cK.out.mono ?_; rintro en w1 ⟨rfl, hb1⟩
    go_wp2
    refine bodyPost_ret (v := .tuple #[.int .i64 (0), .int .i64 8]) (by simp [results, Try.results32]) rfl ?_
    exact Ret.mk rfl hb1
  | yes h h0 h1 hm =>
    obtain ⟨K, hBK, hK, hp, hll, hlk, hgl⟩ := right_facts h
    have hc := cnt_le l x
    have hx4 : x < 4097 := by omega
    have hc4 : cnt l x ≤ 4096 := by omega
    clear h h1 hm hl hBK hK hp hll hlk hgl hc
    generalize cnt l x = p at *
    go_enter Try.func32, Try.ntmps32
    go_wp2_with fail
    refine cK.out.mono ?_; rintro en w1 ⟨rfl, hb1⟩
    go_wp2
    refine bodyPost_ret (v := .tuple #[.int .i64 (x - (p : Int)), .int .i64 0]) (by simp [results, Try.results32]) rfl ?_
    exact Ret.mk rfl hb1

def MarkRet (w : World) (out : List Int) (e : Int) (en : Ending) (w' : World) : Prop :=
  ∃ A c, out.length ≤ c ∧ en = .returned (.tuple #[.slice A out.length c, .int .i64 e]) ∧ Sep w w' [.row 3 1 (.slice A out.length c) out.length (out.flatMap icell)]
set_option maxRecDepth 100000 in
set_option maxHeartbeats 1600000 in
theorem mark_any (A : Option Addr) (n c : Nat) (B x a e r e2 e3 : Int) (is : Bool) (l out : List Int) (w : World) (hr : Rd w w.heap.size 1 A n (l.flatMap icell)) (hl : l.length = n) (hn : n ≤ 9223372036854775807) (ht : Tells B x l a is e r e2 out e3) :
    Calls Try.prog 33 #[.int .i64 B, .slice A n c, .int .i64 x] w (MarkRet w out e3) := by
  have cK := Lib.hid (check_any A n c B x a e is l w hr hl hn (tells_check ht))
  have HR := Lib.hid hr
  clear hr
  cases ht with
  | form h =>
    clear h hl
    go_enter Try.func33, Try.ntmps33
    go_wp2_with fail
    refine cK.out.mono ?_; rintro en w1 ⟨rfl, hb1⟩
    have S1 := Lib.hid (((Sep.nil_ w).later hb1).nilRow 3 1 none)
    clear hb1 cK
    go_wp2
    refine bodyPost_ret (v := .tuple #[.slice none 0 0, .int .i64 1]) (by simp [results, Try.results33]) rfl ?_
    exact ⟨none, 0, Nat.le_refl _, rfl, S1.out⟩
  | range h h2 =>
    clear h h2 hl
    go_enter Try.func33, Try.ntmps33
    go_wp2_with fail
    refine cK.out.mono ?_; rintro en w1 ⟨rfl, hb1⟩
    have S1 := Lib.hid (((Sep.nil_ w).later hb1).nilRow 3 1 none)
    clear hb1 cK
    go_wp2
    refine bodyPost_ret (v := .tuple #[.slice none 0 0, .int .i64 2]) (by simp [results, Try.results33]) rfl ?_
    exact ⟨none, 0, Nat.le_refl _, rfl, S1.out⟩
  | held h h0 h1 hm =>
    clear h h0 h1 hm hl
    go_enter Try.func33, Try.ntmps33
    go_wp2_with fail
    refine cK.out.mono ?_; rintro en w1 ⟨rfl, hb1⟩
    have S1 := Lib.hid (((Sep.nil_ w).later hb1).nilRow 3 1 none)
    clear hb1 cK
    go_wp2
    refine bodyPost_ret (v := .tuple #[.slice none 0 0, .int .i64 6]) (by simp [results, Try.results33]) rfl ?_
    exact ⟨none, 0, Nat.le_refl _, rfl, S1.out⟩
  | yes h h0 h1 hm =>
    obtain ⟨K, hBK, hK, hp, hll, hlk, hgl⟩ := right_facts h
    have hc := cnt_le l x
    have hc4 : cnt l x ≤ n := by omega
    have hn4 : n ≤ 4096 := by omega
    have HL := Lib.hid hl
    clear h h0 h1 hm hl hBK hK hp hll hlk hgl hc
    generalize cnt l x = p at *
    go_enter Try.func33, Try.ntmps33
    go_wp2_with fail
    refine cK.out.mono ?_; rintro en w1 ⟨rfl, hb1⟩
    have cC := Lib.hid (clone_any A n c (l.flatMap icell) w1 (HR.out.later hb1) (icell_one' l) (by omega) (by omega))
    go_wp2_with fail
    refine cC.out.mono ?_; rintro en w2 ⟨A5, c5, hc5, rfl, K5⟩
    have hcap := Row.capLe (K5.rowHas 0 rfl)
    have S2 := Lib.hid ((((Sep.nil_ w).later hb1).join K5).new 3 [.int .i64 x])
    clear cC cK K5 hb1
    have cI := Lib.hid (insert_any w _ [] A5 n c5 p w2.heap.size (l.flatMap icell) x S2.out (icell_one' l) hc4 hn4 hc5 hcap)
    go_wp2_with fail
    refine cI.out.mono ?_; rintro en w3 ⟨A6, c6, rfl, hc6, K6⟩
    have H6 := Lib.hid K6
    clear K6 cI S2
    go_wp2
    refine bodyPost_ret (v := .tuple #[.slice A6 (n + 1) c6, .int .i64 0]) (by simp [results, Try.results33]) rfl ?_
    have hlen : (l.take p ++ x :: l.drop p).length = n + 1 := by
      have := HL.out
      simp
      omega
    have hfl : (l.take p ++ x :: l.drop p).flatMap icell = (l.flatMap icell).take p ++ .int .i64 x :: (l.flatMap icell).drop p := by
      have h1 := flat_take icell_len l p
      have h2 := flat_drop icell_len l p
      rw [Nat.mul_one] at h1 h2
      rw [h1, h2, List.flatMap_append, List.flatMap_cons]
      rfl
    unfold MarkRet
    rw [hlen, hfl]
    exact ⟨A6, c6, hc6, rfl, H6.out.pick [0] (by decide) (by simp)⟩
end Bd
end Go.Proofs.Ytakmfjnfkjdbfab
