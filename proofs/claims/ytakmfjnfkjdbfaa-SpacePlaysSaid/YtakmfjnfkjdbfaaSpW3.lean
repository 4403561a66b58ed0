/-
  Walk of the reference's NRow. Conditions: none.
-/
import Derived.Test.YtakmfjnfkjdbfaaSpW2
namespace Go.Proofs.Ytakmfjnfkjdbfaa
open Go.RowKit
set_option linter.unusedVariables false
namespace Sp

theorem bool_info : (Try.prog.info? 4).map (fun i => (i.zero, i.size, i.bytes)) = some (some (.bool false), 1, 1) := by kernel_rfl
theorem flat_bools (n : Nat) : (List.replicate n false).flatMap bcell = List.replicate n (.bool false) := by
  induction n with
  | zero => rfl
  | succ n ih => rw [List.replicate_succ, List.replicate_succ, List.flatMap_cons, ih]; rfl
theorem make_bools (n : Nat) (hn : n ≤ 4096) : ∃ M : List Value, M = (List.replicate n false).flatMap bcell ∧
    ∀ W, (Instr.makeSlice 44 (.int .i64 (n : Int)) (.int .i64 (n : Int))).run Try.prog W = .ok (.slice (some ⟨W.heap.size, 0, none⟩) n n) (W.alloc (.cells M.toArray 4)) := by
  obtain ⟨i0, hi, hz0, hz1, hz2⟩ := info_parts bool_info
  refine ⟨_, rfl, fun W => ?_⟩
  have := run_make (P := Try.prog) W 44 4 i0 (.bool false) Try.underlying44 hi hz0 .i64 .i64 (n : Int) (n : Int) (by omega) (Int.le_refl _) (by rw [hz2]; omega) (by omega)
  rw [Int.toNat_natCast, hz1] at this
  have e : (madeCells (Value.bool false).cells (n * 1)) = ((List.replicate n false).flatMap bcell).toArray := by
    apply Array.ext'
    rw [flat_bools, Nat.mul_one]
    exact toList_madeCells_one (.bool false) n
  rw [e] at this
  exact this

theorem of_inj {a b : N} (h : G.of a = G.of b) : a = b := by
  have h1 : (a.a : Int) = b.a := congrArg G.at_ h
  have h2 : (a.m : Int) = b.m := congrArg G.many h
  obtain ⟨a1, a2⟩ := a
  obtain ⟨b1, b2⟩ := b
  simp only at h1 h2
  have e1 : a1 = b1 := by omega
  have e2 : a2 = b2 := by omega
  rw [e1, e2]
/-- what NRow tells -/
def NRowRet (w : World) (S : Nat) (l : List G) (e : Ending) (w' : World) : Prop :=
  (okG (S : Int) (-1) l = false ∧ e = .returned (.tuple #[.slice none 0 0, .bool false]) ∧ Below w.heap.size w w') ∨
    ∃ ln A' c', l = ln.map G.of ∧ Ok S 0 ln ∧ S ≤ c' ∧ e = .returned (.tuple #[.slice A' S c', .bool true]) ∧ Sep w w' [.row 4 1 (.slice A' S c') S ((seg S 0 ln).flatMap bcell)]
set_option maxRecDepth 100000 in
set_option maxHeartbeats 800000 in
theorem nrow_out (A : Option Addr) (n c : Nat) (S : Int) (w : World) (hS : S < 0 ∨ 4096 < S) :
    Calls Try.prog 22 #[.int .i64 S, .slice A n c] w (Ret w (.tuple #[.slice none 0 0, .bool false])) := by
  by_cases h0 : S < 0
  all_goals
    try have h1 : 4096 < S := by omega
    clear hS
    go_enter Try.func22, Try.ntmps22
    go_wp2
    refine bodyPost_ret (v := .tuple #[.slice none 0 0, .bool false]) (by simp [results, Try.results22]) rfl ?_
    exact Ret.mk rfl (Below.refl _ _)

set_option maxRecDepth 100000 in
set_option maxHeartbeats 3200000 in
theorem nrow_any (A : Option Addr) (n c S : Nat) (l : List G) (w : World) (hr : Rd w w.heap.size 2 A n (l.flatMap G.cells)) (hl : l.length = n) (hn : n ≤ 9223372036854775807) (hS : S ≤ 4096) :
    Calls Try.prog 22 #[.int .i64 (S : Int), .slice A n c] w (NRowRet w S l) := by
  obtain ⟨M, hM, hmk⟩ := make_bools S hS
  have HM := Lib.hid hM
  have HR := Lib.hid hr
  have HL := Lib.hid hl
  have S0 := Lib.hid ((Sep.nil_ w).newRow 4 1 S M (by rw [hM, flat_len bcell_len, List.length_replicate]) (by simp only [maxLen]; omega))
  have s0 : ¬ (S : Int) < 0 := by omega
  have s1 : ¬ 4096 < S := by omega
  clear hr hl hM
  go_enter Try.func22, Try.ntmps22
  go_wp2
  generalize w.heap.size = gr at S0 ⊢
  go_loopg [7, 21] n (fun g v7 i wr => ∃ (k : Nat) (last : Int) (pre : List N) (cur : List Bool), k ≤ n ∧ g = n - k ∧ i = .int .i64 k ∧ v7 = .int .i64 last ∧ -1 ≤ last ∧ last ≤ 4096 ∧ Hid (okG (S : Int) (-1) l = okG (S : Int) last (l.drop k)) ∧ Hid (l.take k = pre.map G.of) ∧ Hid (cur.length = S) ∧ Hid (∀ i, i < S → cur[i]? = some (mem pre i)) ∧ Sep w wr [.row 4 1 (.slice (some ⟨gr, 0, none⟩) S S) S (cur.flatMap bcell)])
  case atStart => exact ⟨0, -1, [], List.replicate S false, Nat.zero_le _, rfl, rfl, rfl, by omega, by omega, Lib.hid rfl, Lib.hid rfl, Lib.hid (by simp), Lib.hid (fun i hi => by rw [List.getElem?_replicate, if_pos hi]; rfl), by rw [← HM.out]; exact S0.out⟩
  case round =>
    clear S0 hmk HM
    obtain ⟨k, last, pre, cur, hk, rfl, rfl, rfl, hl0, hl1, HK, HP, HCL, HC, hs⟩ := hrel
    have HS := Lib.hid hs
    clear hs
    by_cases hlt : k < n
    · obtain ⟨b, off, rfl, hb, hc⟩ := HR.out.at_ G.len (by omega)
      obtain ⟨x, hx⟩ : ∃ x, l[k]? = some x := ⟨_, List.getElem?_eq_getElem (by rw [HL.out]; exact hlt)⟩
      obtain ⟨d0, d1⟩ := G.facts hb HS.out.below hc hx
      have i0 : (0 : Int) ≤ (k : Int) := by omega
      have i1 : (k : Int) < (n : Int) := by omega
      have HO : Hid (okG (S : Int) (-1) l = (decide (last < x.at_) && decide (1 ≤ x.many) && decide (x.at_ + x.many ≤ (S : Int)) && okG (S : Int) (x.at_ + x.many) (l.drop (k + 1)))) := Lib.hid (by rw [HK.out, drop_at hx]; rfl)
      have HX := Lib.hid hx
      have HS1 := Lib.hid (HS.out.new 50 x.cells)
      clear hc hx HK
      obtain ⟨xa, xm⟩ := x
      simp only [G.cells] at d0 d1 HO HS1
      by_cases c1 : xa ≤ last
      · have HE : Hid (okG (S : Int) (-1) l = false) := Lib.hid (by
          rw [HO.out]
          rw [show decide (last < xa) = false by simp; omega]; simp)
        clear HO
        go_wp2
        refine bodyPost_ret (v := .tuple #[.slice none 0 0, .bool false]) (by simp [results, Try.results22]) rfl ?_
        exact .inl ⟨HE.out, rfl, HS1.out.below⟩
      by_cases c2 : xm < 1
      · have HE : Hid (okG (S : Int) (-1) l = false) := Lib.hid (by
          rw [HO.out]
          rw [show decide (1 ≤ xm) = false by simp; omega]; simp)
        clear HO
        go_wp2
        refine bodyPost_ret (v := .tuple #[.slice none 0 0, .bool false]) (by simp [results, Try.results22]) rfl ?_
        exact .inl ⟨HE.out, rfl, HS1.out.below⟩
      by_cases c3 : (S : Int) < xm
      · have HE : Hid (okG (S : Int) (-1) l = false) := Lib.hid (by
          rw [HO.out]
          rw [show decide (xa + xm ≤ (S : Int)) = false by simp; omega]; simp)
        clear HO
        go_wp2
        refine bodyPost_ret (v := .tuple #[.slice none 0 0, .bool false]) (by simp [results, Try.results22]) rfl ?_
        exact .inl ⟨HE.out, rfl, HS1.out.below⟩
      by_cases c4 : (S : Int) - xm < xa
      · have HE : Hid (okG (S : Int) (-1) l = false) := Lib.hid (by
          rw [HO.out]
          rw [show decide (xa + xm ≤ (S : Int)) = false by simp; omega]; simp)
        clear HO
        go_wp2
        refine bodyPost_ret (v := .tuple #[.slice none 0 0, .bool false]) (by simp [results, Try.results22]) rfl ?_
        exact .inl ⟨HE.out, rfl, HS1.out.below⟩
      obtain ⟨a, rfl⟩ := Int.eq_ofNat_of_zero_le (show 0 ≤ xa by omega)
      obtain ⟨m, rfl⟩ := Int.eq_ofNat_of_zero_le (show 0 ≤ xm by omega)
      have ham : a + m ≤ S := by omega
      have HN : Hid (okG (S : Int) (-1) l = okG (S : Int) ((a : Int) + (m : Int)) (l.drop (k + 1))) := Lib.hid (by
        rw [HO.out, show decide (last < (a : Int)) = true by simp; omega, show decide ((1 : Int) ≤ (m : Int)) = true by simp; omega, show decide ((a : Int) + (m : Int) ≤ (S : Int)) = true by simp; omega]
        simp)
      have HP2 : Hid (l.take (k + 1) = (pre ++ [(⟨a, m⟩ : N)]).map G.of) := Lib.hid (by
        rw [List.take_add_one, HX.out, HP.out, List.map_append]
        rfl)
      clear HO HX HP
      go_upto_region 10 with (fail)
      generalize wr.alloc (.cells #[.int .i64 (a : Int), .int .i64 (m : Int)] 50) = wo at HS1 ⊢
      generalize wr.heap.size = gx at HS1 ⊢
      clear HS d0 d1
      have f0 := HS1.out.cell 1 rfl (k := 0) rfl
      have f1 := HS1.out.cell 1 rfl (k := 1) rfl
      go_wp2
      clear f0 f1
      go_loopg [51] m (fun g i wr => ∃ (j : Nat) (cur2 : List Bool), j ≤ m ∧ g = m - j ∧ i = .int .i64 j ∧ Hid (cur2.length = S) ∧ Hid (∀ i, i < S → cur2[i]? = some (mem pre i || (decide (a ≤ i) && decide (i < a + j)))) ∧ Sep w wr [.row 4 1 (.slice (some ⟨gr, 0, none⟩) S S) S (cur2.flatMap bcell), .cells gx 50 [.int .i64 (a : Int), .int .i64 (m : Int)]])
      case atStart => exact ⟨0, cur, Nat.zero_le _, rfl, rfl, HCL, Lib.hid (fun i hi => by rw [HC.out i hi, show (decide (a ≤ i) && decide (i < a + 0)) = false by rw [Bool.and_eq_false_iff]; simp; omega, Bool.or_false]), HS1.out⟩
      case round =>
        clear HS1 wo HC HCL
        obtain ⟨j, cur2, hj, rfl, rfl, HCL, HC, hs⟩ := hrel
        have HS := Lib.hid hs
        clear hs
        have f0 := HS.out.cell 1 rfl (k := 0) rfl
        have f1 := HS.out.cell 1 rfl (k := 1) rfl
        by_cases hjm : j < m
        · obtain ⟨p, HPP⟩ : ∃ p, Hid (p = a + j) := ⟨_, Lib.hid rfl⟩
          have kp : (a : Int) + (j : Int) = (p : Int) := by rw [HPP.out]; omega
          have hpS : p < S := by have := HPP.out; omega
          have p0 : (0 : Int) ≤ (p : Int) := by omega
          have p1 : (p : Int) < (S : Int) := by omega
          obtain ⟨old, hold⟩ : ∃ old, cur2[p]? = some old := ⟨_, List.getElem?_eq_getElem (by rw [HCL.out]; exact hpS)⟩
          obtain ⟨g', hg', _, hat⟩ := HS.out.rowAt 0 rfl (by omega)
          cases hg'
          have cp : (cur2.flatMap bcell)[p]? = some (.bool old) := by
            have := flat_get bcell_len cur2 p 0 old hold (by omega)
            rw [Nat.mul_one, Nat.add_zero] at this
            exact this
          have e0 := (hat p).1 _ cp
          have u0 := (hat p).2.1
          have K : Hid (Sep w (wr.setCell ⟨gr, p, none⟩ (.bool true)) [.row 4 1 (.slice (some ⟨gr, 0, none⟩) S S) S ((cur2.set p true).flatMap bcell), .cells gx 50 [.int .i64 (a : Int), .int .i64 (m : Int)]]) := Lib.hid (by
            have := HS.out.field bcell_len 0 rfl (by omega) (k := p) (j := 0) (x := old) hold (by omega) true (.bool true) rfl
            rw [Nat.mul_one, Nat.add_zero] at this
            exact this)
          have HC2 : Hid (∀ i, i < S → (cur2.set p true)[i]? = some (mem pre i || (decide (a ≤ i) && decide (i < a + (j + 1))))) := Lib.hid (fun i hi => by
            rw [List.getElem?_set]
            have hp := HPP.out
            by_cases hip : p = i
            · rw [if_pos hip, if_pos (by rw [HCL.out]; exact hpS), show (decide (a ≤ i) && decide (i < a + (j + 1))) = true by simp; omega, Bool.or_true]
            · rw [if_neg hip, HC.out i hi]
              congr 2
              rw [Bool.eq_iff_iff]
              simp
              omega)
          have HCL2 : Hid ((cur2.set p true).length = S) := Lib.hid (by rw [List.length_set]; exact HCL.out)
          clear hat cp hold HS
          go_wp2
          go_roundg (m - (j + 1))
          case measure => omega
          case rel => exact ⟨j + 1, cur2.set p true, by omega, rfl, by go_num, HCL2, HC2, K.out⟩
        · obtain rfl : j = m := by omega
          go_wp2
          go_roundg (n - (k + 1))
          case measure => omega
          case rel => exact ⟨k + 1, _, pre ++ [⟨a, j⟩], cur2, by omega, rfl, by go_num, rfl, by omega, by omega, HN, HP2, HCL, Lib.hid (fun i hi => by rw [HC.out i hi, mem_append, mem_one]; rfl), HS.out.pick [0] (by decide) (by simp)⟩
    · obtain rfl : k = n := by omega
      have HE : Hid (okG (S : Int) (-1) l = true ∧ l = pre.map G.of) := Lib.hid ⟨by
        rw [HK.out, List.drop_of_length_le (by rw [HL.out]; omega)]
        rfl, by rw [← HP.out, List.take_of_length_le (by rw [HL.out]; omega)]⟩
      have HOK : Hid (Ok S 0 pre) := Lib.hid (by
        obtain ⟨ln, h1, h2⟩ := okG_ok l 0 (by simpa using HE.out.1)
        have h3 : ln = pre := by
          have := h1.symm.trans HE.out.2
          exact (List.map_inj_right (f := G.of) (fun a b hab => of_inj hab)).1 this
        rw [← h3]
        exact h2)
      go_wp2
      refine bodyPost_ret (v := .tuple #[.slice (some ⟨gr, 0, none⟩) S S, .bool true]) (by simp [results, Try.results22]) rfl ?_
      exact .inr ⟨pre, _, S, HE.out.2, HOK.out, Nat.le_refl _, rfl, by rw [← seg_ext HOK.out HCL.out HC.out]; exact HS.out⟩
end Sp
end Go.Proofs.Ytakmfjnfkjdbfaa
