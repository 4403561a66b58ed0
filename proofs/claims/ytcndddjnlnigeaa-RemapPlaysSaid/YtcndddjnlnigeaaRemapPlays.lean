/-
  RemapPlays: remap.Play and remap.Again answer as the reference does, for every number of pages, every list of operations and every list of what was written. Conditions: none.
-/
import Derived.Test.YtcndddjnlnigeaaRmpH2
import Derived.Test.YtcndddjnlnigeaaRmpW2
import Derived.Test.YtcndddjnlnigeaaParse
import Derived.Test.YtcndddjnlnigeaaEq
import Derived.Test.YtcndddjnlnigeaaRowG
import Derived.Test.YtcndddjnlnigeaaReach
namespace Go.Proofs.Ytcndddjnlnigeaa
open Go.ChangeShapes Go.WideShapes Go.ChangeAt Go.RowKit
set_option linter.unusedVariables false
namespace Rmp

set_option maxHeartbeats 800000 in
theorem equal_errs (A A' : Option Addr) (n c c' : Nat) (l : List Int) (w : World) (hr : Rd w w.heap.size 1 A n (l.flatMap icell)) (hr' : Rd w w.heap.size 1 A' n (l.flatMap icell)) (hl : l.length = n) (hn : n ≤ 9223372036854775807) :
    Calls Try.prog 16 #[.slice A n c, .slice A' n c'] w (Ret w (.bool true)) := by
  have HR := Lib.hid hr
  have HR' := Lib.hid hr'
  have HL := Lib.hid hl
  clear hr hr' hl
  go_enter Try.func16, Try.ntmps16
  go_wp2
  go_loopg [13] n (fun g i wr => ∃ k : Nat, k ≤ n ∧ g = n - k ∧ i = .int .i64 k ∧ Below w.heap.size w wr)
  case atStart => exact ⟨0, Nat.zero_le _, rfl, rfl, Below.refl _ _⟩
  case round =>
    obtain ⟨k, hk, rfl, rfl, hB⟩ := hrel
    by_cases hlt : k < n
    · obtain ⟨b, off, rfl, hb, hc⟩ := HR.out.at_ icell_len (by omega)
      obtain ⟨b', off', rfl, hb', hc'⟩ := HR'.out.at_ icell_len (by omega)
      obtain ⟨y, hy⟩ : ∃ y, l[k]? = some y := ⟨_, List.getElem?_eq_getElem (by rw [HL.out]; exact hlt)⟩
      have d1 : ∀ z : LaterOf wr, z.w.cell? ⟨b, off + k, none⟩ = some (.int .i64 y) := fun z => z.cell ((hB.cell hb).trans (by have := hc k 0 y _ hy rfl; simpa using this))
      have d2 : ∀ z : LaterOf wr, z.w.cell? ⟨b', off' + k, none⟩ = some (.int .i64 y) := fun z => z.cell ((hB.cell hb').trans (by have := hc' k 0 y _ hy rfl; simpa using this))
      clear hc hc' hy
      have i0 : (0 : Int) ≤ (k : Int) := by omega
      have i1 : (k : Int) < (n : Int) := by omega
      go_upto_region 6 with (fail)
      refine wp_region_later (by kernel_rfl) (by kernel_rfl) ?_
      repeat (go_big_quiet_step (fail))
      refine wpQuiet_nil ?_; intro xw hw'; obtain ⟨xq, hw''⟩ := hw'; obtain ⟨xw0, xh⟩ := xq; change xw = xw0 at hw''; subst hw''
      go_wp2
      go_roundg (n - (k + 1))
      case measure => omega
      case rel => exact ⟨k + 1, by omega, rfl, by go_num, hB.trans (xh.mono hB.size)⟩
    · go_wp2
      go_ret
      exact Ret.mk rfl hB

set_option maxHeartbeats 800000 in
theorem equal_ints (A A' : Option Addr) (n c c' : Nat) (l : List Int) (w : World) (hr : Rd w w.heap.size 1 A n (l.flatMap icell)) (hr' : Rd w w.heap.size 1 A' n (l.flatMap icell)) (hl : l.length = n) (hn : n ≤ 9223372036854775807) :
    Calls Try.prog 17 #[.slice A n c, .slice A' n c'] w (Ret w (.bool true)) := by
  have HR := Lib.hid hr
  have HR' := Lib.hid hr'
  have HL := Lib.hid hl
  clear hr hr' hl
  go_enter Try.func17, Try.ntmps17
  go_wp2
  go_loopg [13] n (fun g i wr => ∃ k : Nat, k ≤ n ∧ g = n - k ∧ i = .int .i64 k ∧ Below w.heap.size w wr)
  case atStart => exact ⟨0, Nat.zero_le _, rfl, rfl, Below.refl _ _⟩
  case round =>
    obtain ⟨k, hk, rfl, rfl, hB⟩ := hrel
    by_cases hlt : k < n
    · obtain ⟨b, off, rfl, hb, hc⟩ := HR.out.at_ icell_len (by omega)
      obtain ⟨b', off', rfl, hb', hc'⟩ := HR'.out.at_ icell_len (by omega)
      obtain ⟨y, hy⟩ : ∃ y, l[k]? = some y := ⟨_, List.getElem?_eq_getElem (by rw [HL.out]; exact hlt)⟩
      have d1 : ∀ z : LaterOf wr, z.w.cell? ⟨b, off + k, none⟩ = some (.int .i64 y) := fun z => z.cell ((hB.cell hb).trans (by have := hc k 0 y _ hy rfl; simpa using this))
      have d2 : ∀ z : LaterOf wr, z.w.cell? ⟨b', off' + k, none⟩ = some (.int .i64 y) := fun z => z.cell ((hB.cell hb').trans (by have := hc' k 0 y _ hy rfl; simpa using this))
      clear hc hc' hy
      have i0 : (0 : Int) ≤ (k : Int) := by omega
      have i1 : (k : Int) < (n : Int) := by omega
      go_upto_region 6 with (fail)
      refine wp_region_later (by kernel_rfl) (by kernel_rfl) ?_
      repeat (go_big_quiet_step (fail))
      refine wpQuiet_nil ?_; intro xw hw'; obtain ⟨xq, hw''⟩ := hw'; obtain ⟨xw0, xh⟩ := xq; change xw = xw0 at hw''; subst hw''
      go_wp2
      go_roundg (n - (k + 1))
      case measure => omega
      case rel => exact ⟨k + 1, by omega, rfl, by go_num, hB.trans (xh.mono hB.size)⟩
    · go_wp2
      go_ret
      exact Ret.mk rfl hB

theorem list16 {l : List Int} (h : l.length = 16) : ∃ a0 a1 a2 a3 a4 a5 a6 a7 a8 a9 a10 a11 a12 a13 a14 a15, l = [a0, a1, a2, a3, a4, a5, a6, a7, a8, a9, a10, a11, a12, a13, a14, a15] := by
  match l, h with
  | [a0, a1, a2, a3, a4, a5, a6, a7, a8, a9, a10, a11, a12, a13, a14, a15], _ => exact ⟨_, _, _, _, _, _, _, _, _, _, _, _, _, _, _, _, rfl⟩
theorem self16 {l : List Int} (h : l.length = 16) : selfB Try.prog 10000 34 (.agg (l.flatMap icell).toArray) = true := by
  obtain ⟨a0, a1, a2, a3, a4, a5, a6, a7, a8, a9, a10, a11, a12, a13, a14, a15, rfl⟩ := list16 h
  kernel_rfl
theorem eq16 {l : List Int} (h : l.length = 16) (w : World) : (binOp .eql 34 (.agg (l.flatMap icell).toArray) (.agg (l.flatMap icell).toArray)).run Try.prog w = .ok (.bool true) w := run_eql_self _ _ w (self16 h)
theorem agE_len (l : List Int) : (agE l).1.length = 16 := by
  by_cases h : ∃ x ∈ l, bad x
  · rw [agE_bad h]; rfl
  · rw [agE_good (fun x hx hb => h ⟨x, hx, hb⟩)]; exact mk16_len _ _ _

theorem rret_of {w : World} {r : R4} {e : Ending} {w' : World} (h : RRet w r e w') : RRet2 w r e w' := by
  obtain ⟨v, A, c, he, ho, hr, hb⟩ := h
  obtain ⟨A1, c1, rfl⟩ := own_slice ho
  exact ⟨A1, c1, A, c, he, Rd.of_own ho, hr, hb⟩
theorem plays_both (pages : Int) (A : Option Addr) (n c : Nat) (ops : List Op) (w : World) (hr : Rd w w.heap.size 2 A n (ops.flatMap Op.cells)) (hops : ops.length = n) (hn : n * 16 ≤ 140737488351232) :
    ∃ r : R4, r.at_.length = 16 ∧ r.es.length ≤ n ∧ r.nums.length ≤ 4096 ∧ ∀ w', Below w.heap.size w w' →
      Calls Try.prog 12 #[.int .i64 pages, .slice A n c] w' (RRet2 w' r) ∧ Calls Try.prog 13 #[.int .i64 pages, .slice A n c] w' (RRet2 w' r) := by
  by_cases hp : pages < 0 ∨ 4096 < pages
  · exact ⟨⟨[], zero16, [], 2⟩, rfl, Nat.zero_le _, Nat.zero_le _, fun w' hb => ⟨(play_bad pages hp A n c w').mono fun e w2 h => rret_of h, hplay_bad pages hp A n c w'⟩⟩
  · obtain ⟨p, rfl⟩ := Int.eq_ofNat_of_zero_le (show 0 ≤ pages by omega)
    obtain ⟨ES, lf, hP, hok, hes⟩ := plays_ex p ops [] (Ok.nil p)
    refine ⟨⟨ES, atL lf, numL p lf, 0⟩, atL_len lf, by show ES.length ≤ n; omega, by show (numL p lf).length ≤ 4096; rw [numL_len hok.len]; omega, fun w' hb => ⟨?_, ?_⟩⟩
    · exact (play_any p (by omega) A n c ops ES lf w' (hr.later hb) hops hn hP hok.len hes).mono fun e w2 h => rret_of h
    · exact hplay_any p (by omega) A n c ops ES lf w' (hr.later hb) hops hn hP hok.len hes

set_option maxRecDepth 100000 in
set_option maxHeartbeats 1600000 in
theorem remapPlays_walk (pages : Int) (A : Option Addr) (n c : Nat) (ops : List Op) (B : Option Addr) (m d : Nat) (l : List Int) (w : World) (hr : Rd w w.heap.size 2 A n (ops.flatMap Op.cells)) (hops : ops.length = n) (hn : n * 16 ≤ 140737488351232)
    (hr2 : Rd w w.heap.size 1 B m (l.flatMap icell)) (hl : l.length = m) (hm : m ≤ 9223372036854775807) :
    Calls Try.prog 4 #[.int .i64 pages, .slice A n c, .slice B m d] w (Ret w (.bool true)) := by
  obtain ⟨r, h16, hesl, hnl, hcs⟩ := plays_both pages A n c ops w hr hops hn
  have hes0 : r.es.length ≤ 9223372036854775807 := by omega
  have hnu0 : r.nums.length ≤ 9223372036854775807 := by omega
  obtain ⟨es, at_, nums, er⟩ := r
  simp only at h16 hesl hnl hes0 hnu0
  have HC := Lib.hid hcs
  have c3 := Lib.hid (fun w' (hb' : Below w.heap.size w w') => again_any B m d l w' (hr2.later hb') hl hm)
  have c4 := Lib.hid (fun w' (hb' : Below w.heap.size w w') => hagain_any B m d l w' (hr2.later hb') hl hm)
  have h17 := agE_len l
  unfold rowE rowV at c3 c4
  generalize agE l = p at c3 c4 h17
  obtain ⟨ag, ae⟩ := p
  simp only at c3 c4 h17
  have E1 := fun W => eq16 h16 W
  have E2 := fun W => eq16 h17 W
  have H16 := Lib.hid h16
  have H17 := Lib.hid h17
  clear hr hr2 hops hl hcs h16 h17 hesl hnl hn hm
  obtain ⟨ne, hne⟩ : ∃ ne, ne = es.length := ⟨_, rfl⟩
  obtain ⟨nn, hnn⟩ : ∃ nn, nn = nums.length := ⟨_, rfl⟩
  have HNE := Lib.hid hne
  have HNN := Lib.hid hnn
  go_enter Try.func4, Try.ntmps4
  go_wp2_with fail
  refine (HC.out _ (Below.refl _ _)).1.mono ?_; rintro e w1 ⟨A1, q1, A2, q2, rfl, R1, R2, hb1⟩
  unfold rowV
  simp only at R1 R2 ⊢
  rw [← hne] at R1 hes0 ⊢
  rw [← hnn] at R2 hnu0 ⊢
  clear hne hnn
  have S0 := Lib.hid ((Sep.nil_ w).later hb1)
  have F4 := Lib.hid (Blk.new w1 34 (zero16.flatMap icell))
  have F4 := Lib.hid (Blk.new w1 34 (zero16.flatMap icell))
  go_upto_region 2 with (refine wpList_store_row rfl 34 (.tmp 8) (.tmp 24) rfl w1.heap.size (at_.flatMap icell).toArray rfl rfl 34 (zero16.flatMap icell).toArray F4.out (size16' H16.out) (same16 rfl H16.out) (icell_one at_) ?_)
  have Sa := Lib.hid (S0.out.boxed 34 (zero16.flatMap icell) (at_.flatMap icell))
  have hbx := boxed_below w1 (.cells (zero16.flatMap icell).toArray 34) (at_.flatMap icell).toArray
  have R1a := Lib.hid (R1.later hbx)
  have R2a := Lib.hid (R2.later hbx)
  clear R1 R2
  change Code.wp _ _ _ _ ((w1.alloc (.cells (zero16.flatMap icell).toArray 34)).setRow w1.heap.size (at_.flatMap icell).toArray)
  generalize ((w1.alloc (.cells (zero16.flatMap icell).toArray 34)).setRow w1.heap.size (at_.flatMap icell).toArray) = wa at Sa R1a R2a ⊢
  clear F4 hbx
  go_wp2_with fail
  refine (HC.out _ Sa.out.below).2.mono ?_; rintro e w2 ⟨A3, q3, A4, q4, rfl, R3, R4, hb2⟩
  unfold rowV
  simp only at R3 R4 ⊢
  rw [← HNE.out] at R3 ⊢
  rw [← HNN.out] at R4 ⊢
  have S2 := Lib.hid (Sa.out.later hb2)
  have F4 := Lib.hid (Blk.new w2 34 (zero16.flatMap icell))
  go_upto_region 3 with (refine wpList_store_row rfl 34 (.tmp 12) (.tmp 32) rfl w2.heap.size (at_.flatMap icell).toArray rfl rfl 34 (zero16.flatMap icell).toArray F4.out (size16' H16.out) (same16 rfl H16.out) (icell_one at_) ?_)
  have Sb := Lib.hid (S2.out.boxed 34 (zero16.flatMap icell) (at_.flatMap icell))
  have hbx := boxed_below w2 (.cells (zero16.flatMap icell).toArray 34) (at_.flatMap icell).toArray
  have R1b := Lib.hid ((R1a.out.later hb2).later hbx)
  have R2b := Lib.hid ((R2a.out.later hb2).later hbx)
  have R3b := Lib.hid (R3.later hbx)
  have R4b := Lib.hid (R4.later hbx)
  clear R1a R2a R3 R4 HC Sa hb2
  change Code.wp _ _ _ _ ((w2.alloc (.cells (zero16.flatMap icell).toArray 34)).setRow w2.heap.size (at_.flatMap icell).toArray)
  generalize ((w2.alloc (.cells (zero16.flatMap icell).toArray 34)).setRow w2.heap.size (at_.flatMap icell).toArray) = wb at Sb R1b R2b R3b R4b ⊢
  clear F4 hbx
  go_wp2_with fail
  refine (c3.out _ Sb.out.below).mono ?_; rintro e w3 ⟨rfl, hb3⟩
  have S3 := Lib.hid (Sb.out.later hb3)
  have F4 := Lib.hid (Blk.new w3 34 (zero16.flatMap icell))
  go_upto_region 4 with (refine wpList_store_row rfl 34 (.tmp 15) (.tmp 38) rfl w3.heap.size (ag.flatMap icell).toArray rfl rfl 34 (zero16.flatMap icell).toArray F4.out (size16' H17.out) (same16 rfl H17.out) (icell_one ag) ?_)
  have Sc := Lib.hid (S3.out.boxed 34 (zero16.flatMap icell) (ag.flatMap icell))
  have hbx := boxed_below w3 (.cells (zero16.flatMap icell).toArray 34) (ag.flatMap icell).toArray
  have R1c := Lib.hid ((R1b.out.later hb3).later hbx)
  have R2c := Lib.hid ((R2b.out.later hb3).later hbx)
  have R3c := Lib.hid ((R3b.out.later hb3).later hbx)
  have R4c := Lib.hid ((R4b.out.later hb3).later hbx)
  clear R1b R2b R3b R4b Sb hb3 c3
  change Code.wp _ _ _ _ ((w3.alloc (.cells (zero16.flatMap icell).toArray 34)).setRow w3.heap.size (ag.flatMap icell).toArray)
  generalize ((w3.alloc (.cells (zero16.flatMap icell).toArray 34)).setRow w3.heap.size (ag.flatMap icell).toArray) = wc at Sc R1c R2c R3c R4c ⊢
  clear F4 hbx
  go_wp2_with fail
  refine (c4.out _ Sc.out.below).mono ?_; rintro e w4 ⟨rfl, hb4⟩
  have S4 := Lib.hid (Sc.out.later hb4)
  have F4 := Lib.hid (Blk.new w4 34 (zero16.flatMap icell))
  go_upto_region 5 with (refine wpList_store_row rfl 34 (.tmp 17) (.tmp 43) rfl w4.heap.size (ag.flatMap icell).toArray rfl rfl 34 (zero16.flatMap icell).toArray F4.out (size16' H17.out) (same16 rfl H17.out) (icell_one ag) ?_)
  have Sd := Lib.hid (S4.out.boxed 34 (zero16.flatMap icell) (ag.flatMap icell))
  have hbx := boxed_below w4 (.cells (zero16.flatMap icell).toArray 34) (ag.flatMap icell).toArray
  have R1d := Lib.hid ((R1c.out.later hb4).later hbx)
  have R2d := Lib.hid ((R2c.out.later hb4).later hbx)
  have R3d := Lib.hid ((R3c.out.later hb4).later hbx)
  have R4d := Lib.hid ((R4c.out.later hb4).later hbx)
  clear R1c R2c R3c R4c Sc hb4 c4
  change Code.wp _ _ _ _ ((w4.alloc (.cells (zero16.flatMap icell).toArray 34)).setRow w4.heap.size (ag.flatMap icell).toArray)
  generalize ((w4.alloc (.cells (zero16.flatMap icell).toArray 34)).setRow w4.heap.size (ag.flatMap icell).toArray) = wd at Sd R1d R2d R3d R4d ⊢
  clear F4 hbx
  generalize w1.heap.size = g1 at Sd ⊢
  generalize w2.heap.size = g2 at Sd ⊢
  generalize w3.heap.size = g3 at Sd ⊢
  generalize w4.heap.size = g4 at Sd ⊢
  have c5 := Lib.hid (equal_errs A1 A3 ne q1 q3 es wd R1d.out R3d.out HNE.out.symm hes0)
  go_wp2_with fail
  refine c5.out.mono ?_; rintro e w5 ⟨rfl, hb5⟩
  have S5 := Lib.hid (Sd.out.later hb5)
  have c6 := Lib.hid (fun W hW => equal_ints A2 A4 nn q2 q4 nums W ((R2d.out.later hb5).later hW) ((R4d.out.later hb5).later hW) HNN.out.symm hnu0)
  clear c5 R1d R2d R3d R4d Sd
  go_wp2_with (first
    | refine wpList_load_row_g rfl 34 (.tmp 8) rfl g1 rfl 34 (at_.flatMap icell).toArray (0, 0) (.array 16 3) (S5.out.blk 0 rfl) Try.underlying34 rfl (size16' H16.out) ?_
    | refine wpList_load_row_g rfl 34 (.tmp 12) rfl g2 rfl 34 (at_.flatMap icell).toArray (0, 0) (.array 16 3) (S5.out.blk 1 rfl) Try.underlying34 rfl (size16' H16.out) ?_)
  refine (c6.out _ (Below.refl _ _)).mono ?_; rintro e w6 ⟨rfl, hb6⟩
  have S6 := Lib.hid (S5.out.later hb6)
  clear c6 S5 hb5 hb6
  go_wp2_with (first
    | refine wpList_load_row_g rfl 34 (.tmp 15) rfl g3 rfl 34 (ag.flatMap icell).toArray (0, 0) (.array 16 3) (S6.out.blk 2 rfl) Try.underlying34 rfl (size16' H17.out) ?_
    | refine wpList_load_row_g rfl 34 (.tmp 17) rfl g4 rfl 34 (ag.flatMap icell).toArray (0, 0) (.array 16 3) (S6.out.blk 3 rfl) Try.underlying34 rfl (size16' H17.out) ?_)
  go_ret
  exact Ret.mk rfl S6.out.below

theorem op_cells : Try.prog.cellsOf 89 = 2 := by kernel_rfl
theorem op_bytes : Try.prog.bytesOf 89 = 16 := by kernel_rfl
theorem op_parse {H : Type} {enc : TypeId × Value → H} {w : World} {base : Nat} {spare : Nat → Bool} {held : Bool} (n : Nat) (cs : List Value) (y : DataW H × List MemPlace)
    (h : DataW.trod enc Try.prog w base spare held n 89 cs = some y) : ∃ x : Op, cs = x.cells ∧ True := by
  obtain ⟨hl, m, hf⟩ := parse_fields Try.underlying89 (by kernel_rfl) (by kernel_rfl) h
  obtain ⟨v0, z0, e0, t0⟩ := hf 0 _ rfl
  obtain ⟨v1, z1, e1, t1⟩ := hf 1 _ rfl
  obtain ⟨a, rfl, _⟩ := parse_int Try.underlying3 t0
  obtain ⟨b, rfl, _⟩ := parse_int Try.underlying3 t1
  match cs, hl with
  | [c0, c1], _ =>
    simp at e0 e1
    subst e0 e1
    exact ⟨⟨a, b⟩, rfl, trivial⟩
theorem int_cells : Try.prog.cellsOf 3 = 1 := by kernel_rfl
theorem int_parse {H : Type} {enc : TypeId × Value → H} {w : World} {base : Nat} {spare : Nat → Bool} {held : Bool} (n : Nat) (cs : List Value) (y : DataW H × List MemPlace)
    (h : DataW.trod enc Try.prog w base spare held n 3 cs = some y) : ∃ x : Int, cs = icell x ∧ True := by
  obtain ⟨n, hn, _, hw⟩ := DataW.trod_int Try.underlying3 h
  exact ⟨n, hn, trivial⟩

set_option maxRecDepth 100000 in
set_option maxHeartbeats 400000 in
theorem remapPlays_lifted (os : Os) (started : os.Started) (H : Type) (enc : TypeId × Value → H) :
    ReturnsInHanded {} Try.checked os 4 .any (Rows.remapPlaysSpec.pre6 enc Try.prog Try.f4 Rows.remapPlaysRow.domain false)
      (Rows.remapPlaysSpec.post enc Try.prog Try.f4 false true false false) := by
  refine returnsInHanded_of_change_sized (C := Try.checked) own started (by kernel_rfl) Try.func4
    (ChangeSpec.witness6 (enc := enc) (C := Try.checked) false ⟨#[], #[.int .i64 0, .slice none 0 0, .slice none 0 0], []⟩ 8 (by kernel_rfl) (by kernel_rfl) (by kernel_rfl) (by kernel_rfl)) ?_
  intro W base args ds gs before hval0 hW hcnd hsz0 _
  have hval : ∀ (j : Nat) t v, Try.f4.params[j]? = some t → args[j]? = some v → Value.okWide Try.prog W .any base t v := hval0
  have hsz : (DataW.weightsEach Try.prog (Try.f4.params.toList ++ Rows.remapPlaysSpec.plain.varTypes Try.prog) (ds ++ gs)).all (· ≤ reachBytes) = true := hsz0
  have hW0 := hW
  obtain ⟨p, q, hA0, hV, _, _, _⟩ := hW
  have hA : DataW.TrodAll enc Try.prog W 0 (fun _ => true) true Try.f4.params.toList args.toList ds p := hA0
  rw [Try.params4] at hA hval hsz
  obtain ⟨v0, vs0, d0, ds0, p0, q0, hargs, rfl, rfl, h0, r0⟩ := trodAll_cons hA
  obtain ⟨v1, vs1, d1, ds1, p1, q1, rfl, rfl, rfl, h1, r1⟩ := trodAll_cons r0
  obtain ⟨v2, vs2, d2, ds2, p2, q2, rfl, rfl, rfl, h2, r2⟩ := trodAll_cons r1
  obtain ⟨rfl, rfl, rfl⟩ := trodAll_nil r2
  obtain rfl : args = #[v0, v1, v2] := by cases args; simp_all
  obtain ⟨pages, rfl, rfl, rfl, _⟩ := open_int Try.underlying3 (hval 0 _ v0 rfl rfl) h0
  obtain ⟨fu1, hf1⟩ := h1
  obtain ⟨fu2, hf2⟩ := h2
  obtain ⟨A, n, cap, l, hcs, hl, hnc, hcm, _, hrd, hQ, hd⟩ := open_list Op.cells (fun _ => True) Try.underlying31 op_cells Op.len (by omega) op_parse hf1
  obtain rfl := slice_of hcs (okWide_slice Try.underlying31 (hval 1 _ v1 rfl rfl))
  obtain ⟨A2, n2, cap2, l2, hcs2, hl2, hnc2, hcm2, _, hrd2, _, _⟩ := open_list icell (fun _ => True) Try.underlying32 int_cells icell_len (by omega) int_parse hf2
  obtain rfl := slice_of hcs2 (okWide_slice Try.underlying32 (hval 2 _ v2 rfl rfl))
  have hn := reach_of hsz (j := 1) rfl rfl Try.underlying31 op_bytes hd
  unfold maxLen at hcm2
  refine (remapPlays_walk pages A n cap l A2 n2 cap2 l2 W hrd hl hn hrd2 hl2 (by omega)).mono fun e W' ⟨he, hg⟩ => ⟨_, he, ?_⟩
  exact law_post laidOut Try.underlying4 rfl rfl (by kernel_rfl) (fun xs hx => by
    match xs, hx with
    | [_, _, _], _ => rfl) hW0 hg

theorem remapPlays_over : Rows.remapPlaysRow.holds Try.pinned (OpenSpec.ofChange Rows.remapPlaysSpec) :=
  OpenClaim.holds_of_wide 4 Try.f4 rfl rfl rfl rfl rfl rfl rfl ⟨rfl, rfl, rfl, rfl, rfl⟩ rfl rfl rfl rfl rfl (by kernel_rfl) Try.func4 (by kernel_rfl)
    (of_decide_eq_true (by kernel_rfl)) (by unfold Func.isWrapper; first | (rw [if_pos (by decide +kernel)]; kernel_rfl) | (rw [if_neg (by decide +kernel)]; exact ⟨rfl, rfl⟩))
    (fun os started H enc _ => remapPlays_lifted os started H enc)
end Rmp
theorem remapPlays_holds : Rows.RemapPlaysSaid := Rmp.remapPlays_over
end Go.Proofs.Ytcndddjnlnigeaa
