/-
  Walk of cell.Force. Conditions: none beyond each theorem's own premises.
-/
import Derived.Test.YtakmfjnfkjdbfabCwW2
import Derived.Laws.Bits64b
namespace Go.Proofs.Ytakmfjnfkjdbfab
open Go.RowKit
set_option linter.unusedVariables false
namespace Cell

set_option maxHeartbeats 800000 in
theorem bclone_any (A : Option Addr) (n c : Nat) (xs : List Value) (w : World) (hr : Rd w w.heap.size 1 A n xs) (h1 : ∀ u ∈ xs, u.oneCell' = true) (hn : n * 1 ≤ 140737488355328) (hm : n ≤ 9223372036854775807) :
    Calls Try.prog 52 #[.slice A n c] w (SliceRet w 5 1 n xs) := by
  obtain ⟨ti, hti, t0, t1, t2⟩ := info_parts byte_info
  have HR := Lib.hid hr
  have H1 := Lib.hid h1
  have hnil : ∀ w, (binOp .eql 34 (.slice A n c) (.slice none 0 0)).run Try.prog w = .ok (.bool A.isNone) w := fun w => Lib.run_eql_slice_nil w 34 5 A n c 0 0 Try.underlying34
  clear hr h1
  cases A with
  | none =>
    obtain rfl : n = 0 := by
      rcases Nat.eq_zero_or_pos n with h | h
      · exact h
      · obtain ⟨b, off, hA, _⟩ := HR.out.2 h; cases hA
    obtain rfl : xs = [] := List.eq_nil_of_length_eq_zero (by have := HR.out.1; omega)
    have hnil' : ∀ w, (binOp .eql 34 (.slice none 0 c) (.slice none 0 0)).run Try.prog w = .ok (.bool true) w := hnil
    clear hnil
    go_enter Try.func52, Try.ntmps52
    go_wp2
    go_ret
    exact ⟨none, 0, Nat.le_refl _, rfl, (Sep.nil_ w).nilRow 5 1 none⟩
  | some a =>
    have hnil' : ∀ w, (binOp .eql 34 (.slice (some a) n c) (.slice none 0 0)).run Try.prog w = .ok (.bool false) w := hnil
    clear hnil
    have HS0 : Hid (Sep w (w.alloc (.cells #[] 5)) [.row 5 1 (.slice (some ⟨w.heap.size, 0, none⟩) 0 0) 0 []]) := Lib.hid (((Sep.nil_ w).alloc _).nilRow 5 1 _)
    have HRs := Lib.hid (HR.out.later HS0.out.below)
    go_enter Try.func52, Try.ntmps52
    go_wp2_with (at_builtin; refine wpList_append_sep HS0.out 0 rfl (.tmp 5) (.tmp 6) 34 rfl 5 ti (.int .u8 0) 1 1 Try.underlying34 hti t0 t1 t2 rfl (by omega) _ 0 _ rfl rfl _ _ n c _ rfl HRs.out H1.out (by simp only [maxLen]; omega) (by omega) ?_; intro A6 c6 w3 hc6 hs3 HA)
    go_ret
    simp only [Nat.zero_add, List.nil_append] at HA hc6 ⊢
    exact ⟨A6, c6, hc6, rfl, HA⟩

def andK (o t : List Nat) (k : Nat) : List Nat := (List.range o.length).map fun j => if j < k then o.getD j 0 &&& t.getD j 0 else o.getD j 0
theorem andK_len (o t : List Nat) (k : Nat) : (andK o t k).length = o.length := by simp [andK]
theorem andK_at {o t : List Nat} {k j : Nat} (hj : j < o.length) : (andK o t k)[j]? = some (if j < k then o.getD j 0 &&& t.getD j 0 else o.getD j 0) := by simp [andK, hj]
theorem andK_zero (o t : List Nat) : andK o t 0 = o := by
  refine List.ext_getElem? fun j => ?_
  by_cases hj : j < o.length
  · rw [andK_at hj, if_neg (by omega), List.getD_eq_getElem?_getD, List.getElem?_eq_getElem hj]
    rfl
  · rw [List.getElem?_eq_none (by rw [andK_len]; omega), List.getElem?_eq_none (by omega)]
theorem andK_set {o t : List Nat} {k : Nat} (hk : k < o.length) : (andK o t k).set k (o.getD k 0 &&& t.getD k 0) = andK o t (k + 1) := by
  refine List.ext_getElem? fun j => ?_
  rw [List.getElem?_set, andK_len]
  by_cases hj : k = j
  · subst hj
    rw [if_pos rfl, if_pos hk, andK_at hk, if_pos (by omega)]
  · rw [if_neg hj]
    by_cases hjl : j < o.length
    · rw [andK_at hjl, andK_at hjl]
      congr 1
      by_cases hjk : j < k
      · rw [if_pos hjk, if_pos (by omega)]
      · rw [if_neg hjk, if_neg (by omega)]
    · rw [List.getElem?_eq_none (by rw [andK_len]; omega), List.getElem?_eq_none (by rw [andK_len]; omega)]
theorem byteN_and {x y : Nat} (hx : x < 256) : byteN (fun i => x.testBit i && y.testBit i) 8 = x &&& y := by
  refine Nat.eq_of_testBit_eq fun i => ?_
  rw [byteN_bit, Nat.testBit_and]
  by_cases hi : i < 8
  · simp [hi]
  · have : x.testBit i = false := Nat.testBit_lt_two_pow (lt_pow hx hi)
    rw [this]
    simp [hi]
theorem and_end {o t : List Nat} (ho : ∀ x ∈ o, x < 256) : andK o t o.length = bytesOf (forceB o t) o.length := by
  refine List.map_congr_left fun j hj => ?_
  have hj' : j < o.length := List.mem_range.1 hj
  rw [if_pos hj']
  have hx : o.getD j 0 < 256 := by
    rw [List.getD_eq_getElem?_getD, List.getElem?_eq_getElem hj']
    exact ho _ (List.getElem_mem _)
  rw [← byteN_and hx]
  refine byteN_congr 8 fun i hi => ?_
  unfold forceB bit
  rw [show (8 * j + i) / 8 = j by omega, show (8 * j + i) % 8 = i by omega]
theorem u8_and (a b : Nat) (ha : a < 256) (hb : b < 256) : bits .and .u8 (a : Int) (b : Int) = ((a &&& b : Nat) : Int) := by
  have key : ∀ a : Fin 256, ∀ b : Fin 256, bits .and .u8 ((a.val : Nat) : Int) ((b.val : Nat) : Int) = ((a.val &&& b.val : Nat) : Int) := by decide +kernel
  exact key ⟨a, ha⟩ ⟨b, hb⟩

set_option maxRecDepth 100000 in
set_option maxHeartbeats 1600000 in
theorem force_any (A A' : Option Addr) (n c n' c' : Nat) (o t : List Nat) (w : World) (hr : Rd w w.heap.size 1 A n (o.flatMap bcell)) (hl : o.length = n) (hn : n ≤ 1048576) (hb : ∀ x ∈ o, x < 256)
    (hr' : Rd w w.heap.size 1 A' n' (t.flatMap bcell)) (hl' : t.length = n') (hn' : n' ≤ 1048576) (hb' : ∀ x ∈ t, x < 256) :
    Calls Try.prog 17 #[.slice A n c, .slice A' n' c'] w (fun e w' => ∃ A2 c2, e = .returned (.tuple #[.slice A2 (forceE o t).1.length c2, .int .i64 (forceE o t).2]) ∧ Sep w w' [.row 5 1 (.slice A2 (forceE o t).1.length c2) (forceE o t).1.length ((forceE o t).1.flatMap bcell)]) := by
  by_cases hne : n = n'
  · subst hne
    have cL := Lib.hid (bclone_any A n c (o.flatMap bcell) w hr (bcell_one o) (by omega) (by omega))
    have HR' := Lib.hid hr'
    have HL := Lib.hid hl
    have HL' := Lib.hid hl'
    have HB := Lib.hid hb
    have HB' := Lib.hid hb'
    have HE : Hid (forceE o t = (andK o t n, 0)) := Lib.hid (by rw [← hl, and_end hb]; simp [forceE, hl, hl'])
    clear hr hl hb hr' hl' hb'
    go_enter Try.func17, Try.ntmps17
    go_wp2_with fail
    refine cL.out.mono ?_; rintro e w2 ⟨A2, c2, hc2, rfl, K⟩
    have S2 : Hid (Sep w w2 [.row 5 1 (.slice A2 n c2) n ((andK o t 0).flatMap bcell)]) := Lib.hid (by rw [andK_zero]; exact K)
    clear K cL
    go_wp2
    go_loopg [18] n (fun g i wr => ∃ k : Nat, k ≤ n ∧ g = n - k ∧ i = .int .i64 k ∧ Sep w wr [.row 5 1 (.slice A2 n c2) n ((andK o t k).flatMap bcell)])
    case atStart => exact ⟨0, Nat.zero_le _, rfl, rfl, S2.out⟩
    case round =>
      clear S2
      obtain ⟨k, hk, rfl, rfl, hs⟩ := hrel
      have HS := Lib.hid hs
      clear hs
      by_cases hlt : k < n
      · obtain ⟨b', off', rfl, hb2, hc⟩ := HR'.out.at_ bcell_len (by omega)
        obtain ⟨y, hy⟩ : ∃ y, t[k]? = some y := ⟨_, List.getElem?_eq_getElem (by rw [HL'.out]; exact hlt)⟩
        obtain ⟨x, hx⟩ : ∃ x, o[k]? = some x := ⟨_, List.getElem?_eq_getElem (by rw [HL.out]; exact hlt)⟩
        have d1 := rd_at HR'.out (by omega) HS.out.below hy
        have hxa : (andK o t k)[k]? = some x := by rw [andK_at (by rw [HL.out]; exact hlt), if_neg (by omega), getD_of hx]
        have hset := andK_set (t := t) (show k < o.length by rw [HL.out]; exact hlt)
        rw [getD_of hx, getD_of hy] at hset
        have hx8 := HB.out x (List.mem_of_getElem? hx)
        have hy8 := HB'.out y (List.mem_of_getElem? hy)
        obtain ⟨g2, rfl, _, hat⟩ := HS.out.rowAt 0 rfl (by omega)
        have hcx : ((andK o t k).flatMap bcell)[k]? = some (.int .u8 (x : Int)) := by rw [bcell_at, hxa]; rfl
        have e0 := (hat k).1 _ hcx
        have u0 := (hat k).2.1
        have hand := u8_and x y hx8 hy8
        have K : Hid (Sep w (wr.setCell ⟨g2, k, none⟩ (.int .u8 ((x &&& y : Nat) : Int))) [.row 5 1 (.slice (some ⟨g2, 0, none⟩) n c2) n ((andK o t (k + 1)).flatMap bcell)]) := Lib.hid (by
          have := HS.out.field bcell_len 0 rfl (by omega) (k := k) (j := 0) (x := x) hxa (by omega) (x &&& y) (.int .u8 ((x &&& y : Nat) : Int)) rfl
          rw [Nat.mul_one, Nat.add_zero, hset] at this
          exact this)
        have i0 : (0 : Int) ≤ (k : Int) := by omega
        have i1 : (k : Int) < (n : Int) := by omega
        clear hat hcx hxa hset HS hc hy hx
        generalize (x &&& y : Nat) = z at hand K
        go_wp2
        go_roundg (n - (k + 1))
        case measure => omega
        case rel => exact ⟨k + 1, by omega, rfl, by go_num, K.out⟩
      · obtain rfl : k = n := by omega
        go_wp2
        refine bodyPost_ret (v := .tuple #[.slice A2 k c2, .int .i64 0]) (by simp [results, Try.results17]) rfl ?_
        rw [HE.out]
        simp only [andK_len, HL.out]
        exact ⟨A2, c2, rfl, HS.out⟩
  · have ht : ((n : Int) != (n' : Int)) = true := by simp; omega
    have HE : Hid (forceE o t = ([], 1)) := Lib.hid (by simp [forceE, hl, hl', hne])
    clear hne hl hl' hb hb' hr hr'
    go_enter Try.func17, Try.ntmps17
    go_wp2
    refine bodyPost_ret (v := .tuple #[.slice none 0 0, .int .i64 1]) (by simp [results, Try.results17]) rfl ?_
    rw [HE.out]
    exact ⟨none, 0, rfl, (Sep.nil_ w).nilRow 5 1 none⟩
/-- what is torn by a row that is all true is what was to be written -/
theorem torn_all {o t : List Nat} (hl : o.length = t.length) (ht : ∀ x ∈ t, x < 256) : tornL o t (List.replicate (8 * t.length) true) = t := by
  unfold tornL bytesOf
  refine List.ext_getElem? fun j => ?_
  by_cases hj : j < t.length
  · rw [List.getElem?_map, List.getElem?_range (by omega), List.getElem?_eq_getElem hj]
    simp only [Option.map_some, Option.some.injEq]
    have hx := ht _ (List.getElem_mem hj)
    have : byteN (fun i => tornBit o t (List.replicate (8 * t.length) true) (8 * j + i)) 8 = byteN (fun i => t[j].testBit i && t[j].testBit i) 8 := byteN_congr 8 fun i hi => by
      unfold tornBit bit
      rw [show (List.replicate (8 * t.length) true).getD (8 * j + i) false = true by rw [List.getD_eq_getElem?_getD, List.getElem?_replicate, if_pos (by omega)]; rfl, if_pos rfl, show (8 * j + i) / 8 = j by omega, show (8 * j + i) % 8 = i by omega, List.getD_eq_getElem?_getD, List.getElem?_eq_getElem hj]
      simp
    rw [this, byteN_and hx, Nat.and_self]
  · rw [List.getElem?_eq_none (by simp; omega), List.getElem?_eq_none (by omega)]
theorem write_torn {o t : List Nat} (ht : ∀ x ∈ t, x < 256) : tornE o t (List.replicate (8 * t.length) true) = writeE o t := by
  unfold tornE writeE
  split
  · rfl
  · rename_i h
    rw [torn_all (by omega) ht]
end Cell
end Go.Proofs.Ytakmfjnfkjdbfab
