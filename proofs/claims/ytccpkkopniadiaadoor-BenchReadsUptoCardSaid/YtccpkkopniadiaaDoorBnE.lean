/-
  Walk of the law BenchReads. Conditions: none beyond each theorem's own premises.
-/
import Derived.Test.YtccpkkopniadiaaDoorBnZ
import Derived.Test.YtccpkkopniadiaaDoorBnP
import Derived.Test.YtccpkkopniadiaaDoorEq
namespace Go.Proofs.YtccpkkopniadiaaDoor
open Go.RowKit Go.Shelf Go.Sort
set_option linter.unusedVariables false
namespace So
theorem Op.facts {l : List Op} {k : Nat} {x : Op} {b off B : Nat} {w w' : World} (hb : b < B) (hB : Below B w w') (hc : ∀ (j d : Nat) (x : Op) (v : Value), l[j]? = some x → x.cells[d]? = some v → w.cell? ⟨b, off + (j * 4 + d), none⟩ = some v) (hx : l[k]? = some x) :
    w'.cell? ⟨b, off + k * 4, none⟩ = some (.int .i64 x.kind) ∧ w'.cell? ⟨b, off + k * 4 + 1, none⟩ = some (.string x.nm) ∧ w'.cell? ⟨b, off + k * 4 + 2, none⟩ = some (.string x.dt) ∧ w'.cell? ⟨b, off + k * 4 + 3, none⟩ = some (.int .i64 x.keep) :=
  ⟨(hB.cell hb).trans (hc k 0 x _ hx rfl), (hB.cell hb).trans (hc k 1 x _ hx rfl), (hB.cell hb).trans (hc k 2 x _ hx rfl), (hB.cell hb).trans (hc k 3 x _ hx rfl)⟩
theorem neqOp (x : Op) (w : World) : (binOp .neq 30 (.agg #[.int .i64 x.kind, .string x.nm, .string x.dt, .int .i64 x.keep]) (.agg #[.int .i64 x.kind, .string x.nm, .string x.dt, .int .i64 x.keep])).run Tryd.prog w = .ok (.bool false) w := by
  obtain ⟨a, b, c, d⟩ := x
  exact run_neq_self _ _ w (by kernel_rfl)
set_option maxHeartbeats 1600000 in
theorem equal_ops (A A' : Option Addr) (n c c' : Nat) (l : List Op) (w : World) (hr : Rd w w.heap.size 4 A n (l.flatMap Op.cells)) (hr' : Rd w w.heap.size 4 A' n (l.flatMap Op.cells)) (hl : l.length = n) (hn : n ≤ 9223372036854775807) :
    Calls Tryd.prog 8 #[.slice A n c, .slice A' n c'] w (Ret w (.bool true)) := by
  have HR := Lib.hid hr
  have HR' := Lib.hid hr'
  have HL := Lib.hid hl
  clear hr hr' hl
  go_enter Tryd.func8, Tryd.ntmps8
  go_wp2
  go_loopg [13] n (fun g i wr => ∃ k : Nat, k ≤ n ∧ g = n - k ∧ i = .int .i64 k ∧ Below w.heap.size w wr)
  case atStart => exact ⟨0, Nat.zero_le _, rfl, rfl, Below.refl _ _⟩
  case round =>
    obtain ⟨k, hk, rfl, rfl, hB⟩ := hrel
    by_cases hlt : k < n
    · obtain ⟨b, off, rfl, hb, hc⟩ := HR.out.at_ Op.len (by omega)
      obtain ⟨b', off', rfl, hb', hc'⟩ := HR'.out.at_ Op.len (by omega)
      obtain ⟨y, hy⟩ : ∃ y, l[k]? = some y := ⟨_, List.getElem?_eq_getElem (by rw [HL.out]; exact hlt)⟩
      have d1 := Op.facts hb hB hc hy
      have d2 := Op.facts hb' hB hc' hy
      have E := neqOp y
      have i0 : (0 : Int) ≤ (k : Int) := by omega
      have i1 : (k : Int) < (n : Int) := by omega
      clear hc hc' hy
      go_wp2
      go_quiet (fail)
      go_wp2
      generalize hxw : World.drewN wr _ = xw
      have xh : Below wr.heap.size wr xw := by rw [← hxw]; exact below_drewN (Below.refl _ _) _
      clear hxw
      go_roundg (n - (k + 1))
      case measure => omega
      case rel => exact ⟨k + 1, by omega, rfl, by go_num, hB.trans (xh.mono hB.size)⟩
    · go_wp2
      go_ret
      exact Ret.mk rfl hB
end So
namespace Bn
theorem printR_ex (l : List So.Op) : ∃ T e, printR l = .tuple #[.string T, .int .i64 e] := by
  unfold printR
  split
  · exact ⟨_, _, rfl⟩
  · exact ⟨_, _, rfl⟩

set_option maxRecDepth 100000 in
set_option maxHeartbeats 1600000 in
theorem benchReads_walk (A : Option Addr) (n c : Nat) (l : List So.Op) (w : World) (hr : Rd w w.heap.size 4 A n (l.flatMap So.Op.cells)) (hl : l.length = n) (hn : n ≤ 1048577) (hok : ∀ o ∈ l, OkO o) (ht : (txt l).length ≤ 10000000000000) (x : By) (S : ByteArray) (hS : bs x = S) (hlx : x.length ≤ 1048577) (hg : Gl w) :
    Calls Tryd.prog 3 #[.slice A n c, .string S] w (Ret w (.bool true)) := by
  obtain ⟨T, e, hp⟩ := printR_ex l
  obtain ⟨r, kk, hpr⟩ := pr_ex x.length x [] (Nat.le_refl _)
  have cP := print_any A n c l w hr hl hn hok ht hg
  have cY := fun W (hW : Below w.heap.size w W) => yprint_any A n c l W (hr.later hW) hl hn hok ht (hg.later hW)
  rw [hp] at cP
  simp only [hp] at cY
  have CP := Lib.hid cP
  have CY := Lib.hid cY
  have CA := Lib.hid (fun W (hW : Below w.heap.size w W) => parseAll_any x S hS hlx r kk hpr W (hg.later hW))
  have CB := Lib.hid (fun W (hW : Below w.heap.size w W) => yparse_any x S hS hlx r kk hpr W (hg.later hW))
  clear cP cY hp hr hl hok ht hg hpr hlx
  have zT : (T.toList == T.toList) = true := by simp
  go_enter Tryd.func3, Tryd.ntmps3
  go_wp2_with fail
  refine CP.out.mono ?_; rintro en w1 ⟨rfl, hb1⟩
  have B1 := Lib.hid hb1
  clear hb1 CP
  go_wp2_with fail
  refine (CY.out w1 B1.out).mono ?_; rintro en w2 ⟨rfl, hb2⟩
  have B2 := Lib.hid (B1.out.trans (hb2.mono B1.out.size))
  clear hb2 CY B1
  go_wp2_with fail
  cases r with
  | none =>
    refine (CA.out w2 B2.out).mono ?_; rintro en w3 ⟨rfl, hb3⟩
    have B3 := Lib.hid (B2.out.trans (hb3.mono B2.out.size))
    clear hb3 CA B2
    go_wp2_with fail
    refine (CB.out w3 B3.out).mono ?_; rintro en w4 ⟨rfl, hb4⟩
    have B4 := Lib.hid (B3.out.trans (hb4.mono B3.out.size))
    clear hb4 CB B3
    have cE := Lib.hid (So.equal_ops none none 0 0 0 [] w4 Rd.nil_ Rd.nil_ rfl (by omega))
    go_wp2_with fail
    refine cE.out.mono ?_; rintro en w5 ⟨rfl, hb5⟩
    have HF := Lib.hid (B4.out.trans (hb5.mono B4.out.size))
    clear hb5 cE B4
    go_wp2
    go_ret
    exact Ret.mk rfl HF.out
  | some l2 =>
    obtain ⟨n2, hn2⟩ : ∃ n2, l2.length = n2 := ⟨_, rfl⟩
    refine (CA.out w2 B2.out).mono ?_; rintro en w3 ⟨A3, c3, hc3, rfl, hs3⟩
    rw [hn2] at hc3 hs3 ⊢
    have H3 := Lib.hid ((Sep.nil_ w).later B2.out |>.join hs3)
    clear hs3 CA B2
    go_wp2_with fail
    refine (CB.out w3 H3.out.below).mono ?_; rintro en w4 ⟨A4, c4, hc4, rfl, hs4⟩
    rw [hn2] at hc4 hs4 ⊢
    have H4 := Lib.hid (H3.out.join hs4)
    have hm : n2 ≤ maxLen := by
      have h := (H4.out.rowHas 0 rfl)
      rcases h.2 with ⟨h0, _⟩ | ⟨g, cap, cur, _, _, h1, h2, _⟩
      · rw [h0]
        exact Nat.zero_le _
      · exact Nat.le_trans h1 h2
    clear hs4 CB H3
    have cE := Lib.hid (So.equal_ops A3 A4 n2 c3 c4 l2 w4 (H4.out.rd 0 rfl) (H4.out.rd 1 rfl) hn2 (by unfold maxLen at hm; omega))
    clear hn2 hm
    go_wp2_with fail
    refine cE.out.mono ?_; rintro en w5 ⟨rfl, hb5⟩
    have HF := Lib.hid (H4.out.later hb5).below
    clear hb5 cE H4
    go_wp2
    go_ret
    exact Ret.mk rfl HF.out
end Bn
end Go.Proofs.YtccpkkopniadiaaDoor
