/-
  Walks of slices.Clone, of slices.IndexFunc and DeleteFunc at tables' cells, of merge.Last and merge.Put. Conditions: none.
-/
import Derived.Test.YtcndddjnlnigeaaMrgT3
import Derived.Test.YtcndddjnlnigeaaSlices
import Derived.Shelf.Abstract
import Derived.Lib.SliceRun
namespace Go.Proofs.Ytcndddjnlnigeaa
open Go.RowKit Go.Shelf
set_option linter.unusedVariables false
namespace Mrg

set_option maxHeartbeats 800000 in
theorem clone_any (A : Option Addr) (n c : Nat) (xs : List Value) (w : World) (hr : Rd w w.heap.size 3 A n xs) (h1 : ∀ u ∈ xs, u.oneCell' = true) (hn : n * 24 ≤ 140737488355328) (hm : n ≤ 9223372036854775807) :
    Calls Try.prog 42 #[.slice A n c] w (SliceRet w 44 3 n xs) := by
  obtain ⟨ti, hti, t0, t1, t2⟩ := info_parts cell_info
  have HR := Lib.hid hr
  have H1 := Lib.hid h1
  have hnil : ∀ w, (binOp .eql 42 (.slice A n c) (.slice none 0 0)).run Try.prog w = .ok (.bool A.isNone) w := fun w => Lib.run_eql_slice_nil w 42 44 A n c 0 0 Try.underlying42
  clear hr h1
  cases A with
  | none =>
    obtain rfl : n = 0 := by
      rcases Nat.eq_zero_or_pos n with h | h
      · exact h
      · obtain ⟨b, off, hA, _⟩ := HR.out.2 h; cases hA
    obtain rfl : xs = [] := List.eq_nil_of_length_eq_zero (by have := HR.out.1; omega)
    have hnil' : ∀ w, (binOp .eql 42 (.slice none 0 c) (.slice none 0 0)).run Try.prog w = .ok (.bool true) w := hnil
    clear hnil
    go_enter Try.func42, Try.ntmps42
    go_wp2
    go_ret
    exact ⟨none, 0, Nat.le_refl _, rfl, (Sep.nil_ w).nilRow 44 3 none⟩
  | some a =>
    have hnil' : ∀ w, (binOp .eql 42 (.slice (some a) n c) (.slice none 0 0)).run Try.prog w = .ok (.bool false) w := hnil
    clear hnil
    have HS0 : Hid (Sep w (w.alloc (.cells #[] 44)) [.row 44 3 (.slice (some ⟨w.heap.size, 0, none⟩) 0 0) 0 []]) := Lib.hid (((Sep.nil_ w).alloc _).nilRow 44 3 _)
    have HRs := Lib.hid (HR.out.later HS0.out.below)
    go_enter Try.func42, Try.ntmps42
    go_wp2_with (at_builtin; refine wpList_append_sep HS0.out 0 rfl (.tmp 5) (.tmp 6) 42 rfl 44 ti (.agg #[.int .i64 0, .int .i64 0, .bool false]) 3 24 Try.underlying42 hti t0 t1 t2 rfl (by omega) _ 0 _ rfl rfl _ _ n c _ rfl HRs.out H1.out (by simp only [maxLen]; omega) (by omega) ?_; intro A6 c6 w3 hc6 hs3 HA)
    go_ret
    simp only [Nat.zero_add, List.nil_append] at HA hc6 ⊢
    exact ⟨A6, c6, hc6, rfl, HA⟩

set_option maxHeartbeats 800000 in
theorem gone_any (x : C) (w : World) : Calls Try.prog 43 #[.agg #[.int .i64 x.key, .int .i64 x.data, .bool x.gone]] w (Ret w (.bool x.gone)) := by
  obtain ⟨k, d, g⟩ := x
  simp only
  go_enter Try.func43, Try.ntmps43
  go_wp2
  go_ret
  exact Ret.mk rfl ((Below.refl _ _).alloc (Nat.le_refl _) _)

/-- the first place of a cell that is gone -/
def IdxRet (w : World) (l : List C) (e : Ending) (w' : World) : Prop := Below w.heap.size w w' ∧
  ((e = .returned (.int .i64 (-1)) ∧ ∀ x ∈ l, x.gone = false) ∨ ∃ i : Nat, e = .returned (.int .i64 (i : Int)) ∧ (∃ y, l[i]? = some y ∧ y.gone = true) ∧ ∀ j x, j < i → l[j]? = some x → x.gone = false)
set_option maxHeartbeats 1600000 in
theorem index_any (A : Option Addr) (n c : Nat) (l : List C) (w : World) (hr : Rd w w.heap.size 3 A n (l.flatMap C.cells)) (hl : l.length = n) (hn : n ≤ 9223372036854775807) :
    Calls Try.prog 51 #[.slice A n c, .func (.func 43) #[] #[]] w (IdxRet w l) := by
  have HR := Lib.hid hr
  have HL := Lib.hid hl
  have eg : ∀ args w, (callFunc 43 args).run Try.prog w = .ok (.enter 43 args) w := enters_of Try.func43 (by kernel_rfl) rfl
  clear hr hl
  go_enter Try.func51, Try.ntmps51
  go_wp2
  go_loopg [8] n (fun g i wr => ∃ k : Nat, k ≤ n ∧ g = n - k ∧ i = .int .i64 k ∧ Hid (∀ j x, j < k → l[j]? = some x → x.gone = false) ∧ Below w.heap.size w wr)
  case atStart => exact ⟨0, Nat.zero_le _, rfl, rfl, Lib.hid (fun j x h => by omega), Below.refl _ _⟩
  case round =>
    obtain ⟨k, hk, rfl, rfl, HF, hB⟩ := hrel
    by_cases hlt : k < n
    · obtain ⟨b, off, rfl, hb, hc⟩ := HR.out.at_ C.len (by omega)
      obtain ⟨x, hx⟩ : ∃ x, l[k]? = some x := ⟨_, List.getElem?_eq_getElem (by rw [HL.out]; exact hlt)⟩
      obtain ⟨d0, d1, d2⟩ := C.facts hb hB hc hx
      have i0 : (0 : Int) ≤ (k : Int) := by omega
      have i1 : (k : Int) < (n : Int) := by omega
      have cK := Lib.hid (gone_any x wr)
      cases hg : x.gone with
      | true =>
        have HI : Hid (∃ y, l[k]? = some y ∧ y.gone = true) := Lib.hid ⟨x, hx, hg⟩
        rw [hg] at cK d2
        clear hc hx hg
        go_wp2_with (go_at_fn 43; refine cK.out.mono ?_; rintro e w1 ⟨rfl, hb1⟩)
        go_ret
        exact ⟨hB.trans (hb1.mono hB.size), .inr ⟨k, rfl, HI.out, HF.out⟩⟩
      | false =>
        have HN : Hid (∀ j y, j < k + 1 → l[j]? = some y → y.gone = false) := Lib.hid (fun j y hj hy => by
          by_cases hjk : j = k
          · subst hjk; rw [hx] at hy; cases hy; exact hg
          · exact HF.out j y (by omega) hy)
        rw [hg] at cK d2
        clear hc hx hg
        go_wp2_with (go_at_fn 43; refine cK.out.mono ?_; rintro e w1 ⟨rfl, hb1⟩)
        go_roundg (n - (k + 1))
        case measure => omega
        case rel => exact ⟨k + 1, by omega, rfl, by go_num, HN, hB.trans (hb1.mono hB.size)⟩
    · obtain rfl : k = n := by omega
      go_wp2
      go_ret
      exact ⟨hB, .inl ⟨rfl, fun x hx => by
        obtain ⟨j, hj, rfl⟩ := List.getElem_of_mem hx
        exact HF.out j _ (by rw [← HL.out]; exact hj) (List.getElem?_eq_getElem hj)⟩⟩

theorem lastC_all {l : List C} (h : ∀ x ∈ l, x.gone = false) : lastC l = l := List.filter_eq_self.2 fun x hx => by rw [h x hx]; rfl
theorem lastC_snoc (l : List C) (x : C) : lastC (l ++ [x]) = if x.gone then lastC l else lastC l ++ [x] := by
  unfold lastC
  rw [List.filter_append]
  cases h : x.gone <;> simp [h]
theorem C.zero_info : Try.prog.info? 44 = Try.prog.info? 44 := rfl
theorem cell_zero (w : World) : (zeroValue 44).run Try.prog w = .ok (.agg #[.int .i64 0, .int .i64 0, .bool false]) w := by
  obtain ⟨ti, hti, t0, t1, t2⟩ := info_parts cell_info
  simp [zeroValue, typeInfo, hti, t0]
def DelRet (w0 : World) (l : List C) (e : Ending) (w' : World) : Prop :=
  ∃ A' c', (lastC l).length ≤ c' ∧ e = .returned (.slice A' (lastC l).length c') ∧ Sep w0 w' [.row 44 3 (.slice A' (lastC l).length c') (lastC l).length ((lastC l).flatMap C.cells)]
set_option maxHeartbeats 3200000 in
theorem delete_any (A : Option Addr) (n c : Nat) (l : List C) (w0 w : World) (hS : Sep w0 w [.row 44 3 (.slice A n c) n (l.flatMap C.cells)]) (hl : l.length = n) (hn : n ≤ 4096) (hc : n ≤ c) :
    Calls Try.prog 41 #[.slice A n c, .func (.func 43) #[] #[]] w (DelRet w0 l) := by
  obtain ⟨ti, hti, t0, t1, t2⟩ := info_parts cell_info
  have HS := Lib.hid hS
  have HL := Lib.hid hl
  have eg : ∀ args w, (callFunc 43 args).run Try.prog w = .ok (.enter 43 args) w := enters_of Try.func43 (by kernel_rfl) rfl
  have cI := Lib.hid (index_any A n c l w (hS.rd 0 rfl) hl (by omega))
  clear hS hl
  go_enter Try.func41, Try.ntmps41
  go_wp2_with fail
  refine cI.out.mono ?_; rintro e w1 ⟨hb1, ⟨rfl, hall⟩ | ⟨i, rfl, ⟨y, hy, hyg⟩, hpre⟩⟩
  · have HE : Hid (lastC l = l) := Lib.hid (lastC_all hall)
    have HS1 := Lib.hid (HS.out.later hb1)
    clear hall hb1
    go_wp2
    go_ret
    refine ⟨A, c, ?_, ?_, ?_⟩
    · rw [HE.out, HL.out]; exact hc
    · rw [HE.out, HL.out]; rfl
    · rw [HE.out, HL.out]; exact HS1.out
  · have hin : i < n := by rw [← HL.out]; exact (List.getElem?_eq_some_iff.1 hy).1
    have HK : Hid (l.take i = lastC (l.take (i + 1))) := Lib.hid (by
      rw [List.take_add_one, hy]
      show _ = lastC (l.take i ++ [y])
      rw [lastC_snoc, if_pos hyg]
      refine (lastC_all fun x hx => ?_).symm
      obtain ⟨j, hj, rfl⟩ := List.getElem_of_mem hx
      have hji : j < i := by simp at hj; omega
      exact hpre j _ hji (by rw [← List.getElem?_eq_getElem hj] at *; rw [List.getElem?_take, if_pos hji] ))
    have HS1 := Lib.hid (HS.out.later hb1)
    clear hy hyg hpre hb1 HS
    have i0 : ((i : Int) == -1) = false := by simp <;> omega
    go_wp2
    go_loopg [5, 6] (n - (i + 1)) (fun g v5 v6 wr => ∃ (i j : Nat) (cur : List C), i < j ∧ j ≤ n ∧ g = n - j ∧ v5 = .int .i64 i ∧ v6 = .int .i64 j ∧ cur.length = n ∧ Hid (cur.take i = lastC (l.take j)) ∧ Hid (cur.drop j = l.drop j) ∧ Sep w0 wr [.row 44 3 (.slice A n c) n (cur.flatMap C.cells)])
    case atStart => exact ⟨i, i + 1, l, by omega, by omega, rfl, rfl, by go_num, HL.out, HK, Lib.hid rfl, HS1.out⟩
    case round =>
      clear HS1 HK i0 hin
      obtain ⟨i, j, cur, hij, hj, rfl, rfl, rfl, hcl, HT, HD, hs⟩ := hrel
      have HS := Lib.hid hs
      have HCL := Lib.hid hcl
      clear hs
      by_cases hlt : j < n
      · obtain ⟨x, hx⟩ : ∃ x, cur[j]? = some x := ⟨_, List.getElem?_eq_getElem (by omega)⟩
        have hxl : l[j]? = some x := by
          have := congrArg (fun m => m[0]?) HD.out
          simp only [List.getElem?_drop, Nat.add_zero] at this
          rw [← this, hx]
        obtain ⟨p0, p1, p2⟩ := C.rowCells hx
        obtain ⟨g6, rfl, hg6, hat⟩ := HS.out.rowAt 0 rfl (by omega)
        have d0 := (hat _).1 _ p0
        have d1 := (hat _).1 _ p1
        have d2 := (hat _).1 _ p2
        have i0 : (0 : Int) ≤ (j : Int) := by omega
        have i1 : (j : Int) < (n : Int) := by omega
        have i2 : (0 : Int) ≤ (i : Int) := by omega
        have i3 : (i : Int) < (n : Int) := by omega
        have HS1 := Lib.hid (HS.out.new 44 x.cells)
        have cK := Lib.hid (gone_any x (wr.alloc (.cells #[.int .i64 x.key, .int .i64 x.data, .bool x.gone] 44)))
        have HDN : Hid (cur.drop (j + 1) = l.drop (j + 1)) := Lib.hid (by rw [← List.drop_drop, ← List.drop_drop, HD.out])
        have HTN : Hid (lastC (l.take (j + 1)) = if x.gone then lastC (l.take j) else lastC (l.take j) ++ [x]) := Lib.hid (by rw [List.take_add_one, hxl]; exact lastC_snoc _ _)
        have HX := Lib.hid hx
        clear hat hx hxl p0 p1 p2 HD HS
        cases hg : x.gone with
        | true =>
          rw [hg] at cK
          rw [hg] at d2
          have hgh := Lib.hid hg
          have hcells : x.cells = [.int .i64 x.key, .int .i64 x.data, .bool true] := by rw [C.cells, hg]
          rw [hcells] at HS1
          clear hg hcells
          go_wp2_with (go_at_fn 43; refine cK.out.mono ?_; rintro e w2 ⟨rfl, hb2⟩)
          go_roundg (n - (j + 1))
          case measure => omega
          case rel => exact ⟨i, j + 1, cur, by omega, by omega, rfl, rfl, by go_num, hcl, Lib.hid (by rw [HTN.out, if_pos hgh.out]; exact HT.out), HDN, (HS1.out.later hb2).pick [0] (by decide) (by simp)⟩
        | false =>
          rw [hg] at cK
          rw [hg] at d2
          have hgh := Lib.hid hg
          have hcells : x.cells = [.int .i64 x.key, .int .i64 x.data, .bool false] := by rw [C.cells, hg]
          rw [hcells] at HS1
          have HCE := Lib.hid hcells
          clear hg hcells
          go_wp2_with (go_at_fn 43; refine cK.out.mono ?_; rintro e w2 ⟨rfl, hb2⟩; have HS2 := Lib.hid (HS1.out.later hb2); clear HS1 hb2 d0 d1 d2; generalize wr.heap.size = gb at HS2 ⊢; have d0 := HS2.out.cell 1 rfl (k := 0) rfl; have d1 := HS2.out.cell 1 rfl (k := 1) rfl; have d2 := HS2.out.cell 1 rfl (k := 2) rfl; obtain ⟨g', hg', _, hat⟩ := HS2.out.rowAt 0 rfl (by omega); cases hg'; have u0 := (hat (i * 3)).2.1; have u1 := (hat (i * 3 + 1)).2.1; have u2 := (hat (i * 3 + 2)).2.1; obtain ⟨z, hz⟩ : ∃ z, cur[i]? = some z := ⟨_, List.getElem?_eq_getElem (by have := HCL.out; omega)⟩; have z0 := (hat _).1 _ (C.rowCells hz).1; have z1 := (hat _).1 _ (C.rowCells hz).2.1; have z2 := (hat _).1 _ (C.rowCells hz).2.2; clear hat hz)
          have K := Lib.hid ((HS2.out.elem C.len 0 rfl i (by have := HCL.out; omega) (by omega) x).pick [0] (by decide) (by simp))
          have HTT : Hid ((cur.set i x).take (i + 1) = lastC (l.take (j + 1))) := Lib.hid (by
            rw [HTN.out, hgh.out, if_neg (by decide), ← HT.out, List.take_add_one, List.getElem?_set, if_pos rfl, if_pos (by have := HCL.out; omega), List.take_set_of_le (by omega)]
            rfl)
          have HDD : Hid ((cur.set i x).drop (j + 1) = l.drop (j + 1)) := Lib.hid (by rw [List.drop_set_of_lt (by omega)]; exact HDN.out)
          rw [HCE.out] at K
          go_roundg (n - (j + 1))
          case measure => omega
          case rel => exact ⟨i + 1, j + 1, cur.set i x, by omega, by omega, rfl, by go_num, by go_num, by simp [HCL.out], HTT, HDD, K.out⟩
      · obtain rfl : j = n := by omega
        have HLast : Hid (cur.take i = lastC l) := Lib.hid (by rw [HT.out, List.take_of_length_le (by rw [HL.out]; omega)])
        have hfr := fun W => from_run (P := Try.prog) (t := 42) Try.underlying42 (size_of_info hti t1) A j c i (by omega) W
        have hup := fun W => upto_run (P := Try.prog) (t := 42) Try.underlying42 (size_of_info hti t1) A j c i (by omega) W
        have hil : (cur.take i).length = i := by simp; omega
        have HIL := Lib.hid hil
        clear hil HT HD
        go_wp2_with (refine wpList_clear_sep HS.out 0 rfl (.tmp 38) 42 rfl (k := i) rfl rfl Try.underlying42 cell_zero rfl (by simp [Value.cells, Value.oneCell']) (by omega) (by omega) hc ?_; intro w3 H3)
        go_ret
        have hfl : (cur.flatMap C.cells).take (i * 3) = (lastC l).flatMap C.cells := by
          rw [← HLast.out]
          exact flat_take C.len cur i
        refine ⟨A, c, ?_, ?_, ?_⟩
        · rw [← HLast.out, HIL.out]; omega
        · rw [← HLast.out, HIL.out]; rfl
        · rw [← hfl, ← HLast.out, HIL.out]; exact H3
end Mrg
end Go.Proofs.Ytcndddjnlnigeaa
