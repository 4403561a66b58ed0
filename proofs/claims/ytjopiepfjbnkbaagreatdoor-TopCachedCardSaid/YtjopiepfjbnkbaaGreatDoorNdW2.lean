/-
  Walks of nand.check, of slices.Clone at blocks, of nand.Step. Conditions: none.
-/
import Derived.Test.YtjopiepfjbnkbaaGreatDoorNdW
import Derived.Lib.SliceRun
import Derived.BigRegion
namespace Go.Proofs.YtjopiepfjbnkbaaGreatDoor
open Go.RowKit
set_option linter.unusedVariables false
namespace Nd

set_option maxHeartbeats 800000 in
theorem clone_any (A : Option Addr) (n c : Nat) (xs : List Value) (w : World) (hr : Rd w w.heap.size 6 A n xs) (h1 : ∀ u ∈ xs, u.oneCell' = true) (hn : n * 48 ≤ 140737488355328) (hm : n ≤ 9223372036854775807) :
    Calls Tryz.prog 134 #[.slice A n c] w (SliceRet w 95 6 n xs) := by
  obtain ⟨ti, hti, t0, t1, t2⟩ := info_parts block_info
  have HR := Lib.hid hr
  have H1 := Lib.hid h1
  have hnil : ∀ w, (binOp .eql 86 (.slice A n c) (.slice none 0 0)).run Tryz.prog w = .ok (.bool A.isNone) w := fun w => Lib.run_eql_slice_nil w 86 95 A n c 0 0 Tryz.underlying86
  clear hr h1
  cases A with
  | none =>
    obtain rfl : n = 0 := by
      rcases Nat.eq_zero_or_pos n with h | h
      · exact h
      · obtain ⟨b, off, hA, _⟩ := HR.out.2 h; cases hA
    obtain rfl : xs = [] := List.eq_nil_of_length_eq_zero (by have := HR.out.1; omega)
    have hnil' : ∀ w, (binOp .eql 86 (.slice none 0 c) (.slice none 0 0)).run Tryz.prog w = .ok (.bool true) w := hnil
    clear hnil
    go_enter Tryz.func134, Tryz.ntmps134
    go_wp2
    go_ret
    exact ⟨none, 0, Nat.le_refl _, rfl, (Sep.nil_ w).nilRow 95 6 none⟩
  | some a =>
    have hnil' : ∀ w, (binOp .eql 86 (.slice (some a) n c) (.slice none 0 0)).run Tryz.prog w = .ok (.bool false) w := hnil
    clear hnil
    have HS0 : Hid (Sep w (w.alloc (.cells #[] 95)) [.row 95 6 (.slice (some ⟨w.heap.size, 0, none⟩) 0 0) 0 []]) := Lib.hid (((Sep.nil_ w).alloc _).nilRow 95 6 _)
    have HRs := Lib.hid (HR.out.later HS0.out.below)
    go_enter Tryz.func134, Tryz.ntmps134
    go_wp2_with (at_builtin; refine wpList_append_sep HS0.out 0 rfl (.tmp 5) (.tmp 6) 86 rfl 95 ti (.agg #[.int .i64 0, .int .i64 0, .int .i64 0, .int .i64 0, .int .i64 0, .int .i64 0]) 6 48 Tryz.underlying86 hti t0 t1 t2 rfl (by omega) _ 0 _ rfl rfl _ _ n c _ rfl HRs.out H1.out (by simp only [maxLen]; omega) (by omega) ?_; intro A6 c6 w3 hc6 hs3 HA)
    go_ret
    simp only [Nat.zero_add, List.nil_append] at HA hc6 ⊢
    exact ⟨A6, c6, hc6, rfl, HA⟩

set_option maxRecDepth 100000 in
set_option maxHeartbeats 1600000 in
theorem check_any (A : Option Addr) (c : Nat) (l out : List B) (o : Op) (n e : Int) (w : World) (hr : Rd w w.heap.size 6 A 8 (l.flatMap B.cells)) (hl : l.length = 8) (hw : Way l o out n e) :
    Calls Tryz.prog 133 #[.slice A 8 c, .agg #[.int .i64 o.kind, .int .i64 o.block, .int .i64 o.page, .int .i64 o.data]] w (Ret w (.int .i64 e)) := by
  have HR := Lib.hid hr
  clear hr hl
  have hB1 : ∀ v0 v1 v2 v3 : Value, Hid (Below w.heap.size w (w.alloc (.cells #[v0, v1, v2, v3] 169))) := fun v0 v1 v2 v3 => Lib.hid ((Below.refl _ _).alloc (Nat.le_refl _) _)
  have hB2 : ∀ v0 v1 v2 v3 u0 u1 u2 u3 u4 u5 : Value, Hid (Below w.heap.size w ((w.alloc (.cells #[v0, v1, v2, v3] 169)).alloc (.cells #[u0, u1, u2, u3, u4, u5] 95))) := fun v0 v1 v2 v3 u0 u1 u2 u3 u4 u5 => Lib.hid (((Below.refl _ _).alloc (Nat.le_refl _) _).alloc (by simp) _)
  cases hw with
  | kind h =>
    obtain ⟨k, bk, pg, d⟩ := o
    simp only at h ⊢
    rcases h with h | h
    all_goals
      go_enter Tryz.func133, Tryz.ntmps133
      go_wp2
      go_ret
      exact Ret.mk rfl (hB1 _ _ _ _).out
  | blk h0 h1 h =>
    obtain ⟨k, bk, pg, d⟩ := o
    simp only at h h0 h1 ⊢
    rcases h with h | h
    all_goals
      go_enter Tryz.func133, Tryz.ntmps133
      go_wp2
      go_ret
      exact Ret.mk rfl (hB1 _ _ _ _).out
  | @page k p d bi h0 hb h =>
    simp only
    have b0 : (0 : Int) ≤ (bi : Int) := by omega
    have b1 : (bi : Int) < 8 := by omega
    rcases h0 with rfl | rfl
    all_goals
      rcases h with h | h
      all_goals
        go_enter Tryz.func133, Tryz.ntmps133
        go_wp2
        go_ret
        exact Ret.mk rfl (hB1 _ _ _ _).out
  | @held d bi p x hb hp h => simp only
                              have hbi : bi < 8 := by have := (List.getElem?_eq_some_iff.1 hb).1; have := HR.out.1; rw [flat_len B.len] at this; omega
                              obtain ⟨b, off, rfl, hbb, hc⟩ := HR.out.at_ B.len (by omega)
                              obtain ⟨q0, q1, q2, q3, q4, q5⟩ := B.facts hbb (Below.refl _ w) hc hb
                              have b0 : (0 : Int) ≤ (bi : Int) := by omega
                              have b1 : (bi : Int) < 8 := by omega
                              have p0 : (0 : Int) ≤ (p : Int) := by omega
                              have p1 : (p : Int) < 8 := by omega
                              have t0 := h
                              clear hc hb
                              obtain ⟨xa, xb, xc, xd, dn, wr'⟩ := x
                              simp only at q0 q1 q2 q3 q4 q5 t0
                              go_enter Tryz.func133, Tryz.ntmps133
                              go_wp2
                              go_ret
                              exact Ret.mk rfl (hB2 _ _ _ _ _ _ _ _ _ _).out
  | @none1 d bi p x hb hp h => simp only
                               have hbi : bi < 8 := by have := (List.getElem?_eq_some_iff.1 hb).1; have := HR.out.1; rw [flat_len B.len] at this; omega
                               obtain ⟨b, off, rfl, hbb, hc⟩ := HR.out.at_ B.len (by omega)
                               obtain ⟨q0, q1, q2, q3, q4, q5⟩ := B.facts hbb (Below.refl _ w) hc hb
                               have b0 : (0 : Int) ≤ (bi : Int) := by omega
                               have b1 : (bi : Int) < 8 := by omega
                               have p0 : (0 : Int) ≤ (p : Int) := by omega
                               have p1 : (p : Int) < 8 := by omega
                               have t0 : ¬ (p : Int) < x.done := by omega
                               clear hc hb
                               obtain ⟨xa, xb, xc, xd, dn, wr'⟩ := x
                               simp only at q0 q1 q2 q3 q4 q5 t0
                               go_enter Tryz.func133, Tryz.ntmps133
                               go_wp2
                               go_ret
                               exact Ret.mk rfl (hB2 _ _ _ _ _ _ _ _ _ _).out
  | @none3 d bi p x hb hp h => simp only
                               have hbi : bi < 8 := by have := (List.getElem?_eq_some_iff.1 hb).1; have := HR.out.1; rw [flat_len B.len] at this; omega
                               obtain ⟨b, off, rfl, hbb, hc⟩ := HR.out.at_ B.len (by omega)
                               obtain ⟨q0, q1, q2, q3, q4, q5⟩ := B.facts hbb (Below.refl _ w) hc hb
                               have b0 : (0 : Int) ≤ (bi : Int) := by omega
                               have b1 : (bi : Int) < 8 := by omega
                               have p0 : (0 : Int) ≤ (p : Int) := by omega
                               have p1 : (p : Int) < 8 := by omega
                               have t0 := h
                               clear hc hb
                               obtain ⟨xa, xb, xc, xd, dn, wr'⟩ := x
                               simp only at q0 q1 q2 q3 q4 q5 t0
                               go_enter Tryz.func133, Tryz.ntmps133
                               go_wp2
                               go_ret
                               exact Ret.mk rfl (hB2 _ _ _ _ _ _ _ _ _ _).out
  | @dead d pg bi x hb h => simp only
                            have hbi : bi < 8 := by have := (List.getElem?_eq_some_iff.1 hb).1; have := HR.out.1; rw [flat_len B.len] at this; omega
                            obtain ⟨b, off, rfl, hbb, hc⟩ := HR.out.at_ B.len (by omega)
                            obtain ⟨q0, q1, q2, q3, q4, q5⟩ := B.facts hbb (Below.refl _ w) hc hb
                            have b0 : (0 : Int) ≤ (bi : Int) := by omega
                            have b1 : (bi : Int) < 8 := by omega
                            have p0 : (0 : Int) ≤ (bi : Int) := by omega
                            have p1 : (bi : Int) < 8 := by omega
                            have t0 : (x.wear == 1048576) = true := by simp [h]
                            clear hc hb
                            obtain ⟨xa, xb, xc, xd, dn, wr'⟩ := x
                            simp only at q0 q1 q2 q3 q4 q5 t0
                            go_enter Tryz.func133, Tryz.ntmps133
                            go_wp2
                            go_ret
                            exact Ret.mk rfl (hB2 _ _ _ _ _ _ _ _ _ _).out
  | @prog d bi p x hb hp h =>
    simp only
    have hbi : bi < 8 := by have := (List.getElem?_eq_some_iff.1 hb).1; have := HR.out.1; rw [flat_len B.len] at this; omega
    obtain ⟨b, off, rfl, hbb, hc⟩ := HR.out.at_ B.len (by omega)
    obtain ⟨q0, q1, q2, q3, q4, q5⟩ := B.facts hbb (Below.refl _ w) hc hb
    have b0 : (0 : Int) ≤ (bi : Int) := by omega
    have b1 : (bi : Int) < 8 := by omega
    have p0 : (0 : Int) ≤ (p : Int) := by omega
    have p1 : (p : Int) < 8 := by omega
    have t0 : ¬ (p : Int) < x.done := by omega
    have t1 : ¬ x.done < (p : Int) := by omega
    clear hc hb
    obtain ⟨xa, xb, xc, xd, dn, wr'⟩ := x
    simp only at q0 q1 q2 q3 q4 q5 t0
    go_enter Tryz.func133, Tryz.ntmps133
    go_wp2
    go_ret
    exact Ret.mk rfl (hB2 _ _ _ _ _ _ _ _ _ _).out
  | @erase d pg bi x hb h => simp only
                             have hbi : bi < 8 := by have := (List.getElem?_eq_some_iff.1 hb).1; have := HR.out.1; rw [flat_len B.len] at this; omega
                             obtain ⟨b, off, rfl, hbb, hc⟩ := HR.out.at_ B.len (by omega)
                             obtain ⟨q0, q1, q2, q3, q4, q5⟩ := B.facts hbb (Below.refl _ w) hc hb
                             have b0 : (0 : Int) ≤ (bi : Int) := by omega
                             have b1 : (bi : Int) < 8 := by omega
                             have p0 : (0 : Int) ≤ (bi : Int) := by omega
                             have p1 : (bi : Int) < 8 := by omega
                             have t0 : (x.wear == 1048576) = false := by simp; omega
                             clear hc hb
                             obtain ⟨xa, xb, xc, xd, dn, wr'⟩ := x
                             simp only at q0 q1 q2 q3 q4 q5 t0
                             go_enter Tryz.func133, Tryz.ntmps133
                             go_wp2
                             go_ret
                             exact Ret.mk rfl (hB2 _ _ _ _ _ _ _ _ _ _).out
  | @read d bi p x hb hp h => simp only
                              have hbi : bi < 8 := by have := (List.getElem?_eq_some_iff.1 hb).1; have := HR.out.1; rw [flat_len B.len] at this; omega
                              obtain ⟨b, off, rfl, hbb, hc⟩ := HR.out.at_ B.len (by omega)
                              obtain ⟨q0, q1, q2, q3, q4, q5⟩ := B.facts hbb (Below.refl _ w) hc hb
                              have b0 : (0 : Int) ≤ (bi : Int) := by omega
                              have b1 : (bi : Int) < 8 := by omega
                              have p0 : (0 : Int) ≤ (p : Int) := by omega
                              have p1 : (p : Int) < 8 := by omega
                              have t0 : ¬ x.done ≤ (p : Int) := by omega
                              clear hc hb
                              obtain ⟨xa, xb, xc, xd, dn, wr'⟩ := x
                              simp only at q0 q1 q2 q3 q4 q5 t0
                              go_enter Tryz.func133, Tryz.ntmps133
                              go_wp2
                              go_ret
                              exact Ret.mk rfl (hB2 _ _ _ _ _ _ _ _ _ _).out
end Nd
end Go.Proofs.YtjopiepfjbnkbaaGreatDoor
