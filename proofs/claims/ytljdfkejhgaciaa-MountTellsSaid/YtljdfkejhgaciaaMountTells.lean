/-
  MountTells: mount.Fold and mount.Mount answer as the reference does, for every state, number and pages. Conditions: none.
-/
import Derived.Test.YtljdfkejhgaciaaMountW5
import Derived.Test.YtljdfkejhgaciaaParse
import Derived.Test.YtljdfkejhgaciaaParse2
import Derived.Test.YtljdfkejhgaciaaEq
import Derived.Test.YtljdfkejhgaciaaRowG
namespace Go.Proofs.Ytljdfkejhgaciaa
open Go.ChangeShapes Go.WideShapes Go.ChangeAt Go.RowKit
namespace Mount

theorem list16 {l : List Int} (h : l.length = 16) : ∃ a0 a1 a2 a3 a4 a5 a6 a7 a8 a9 a10 a11 a12 a13 a14 a15, l = [a0, a1, a2, a3, a4, a5, a6, a7, a8, a9, a10, a11, a12, a13, a14, a15] := by
  match l, h with
  | [a0, a1, a2, a3, a4, a5, a6, a7, a8, a9, a10, a11, a12, a13, a14, a15], _ => exact ⟨_, _, _, _, _, _, _, _, _, _, _, _, _, _, _, _, rfl⟩
theorem self16 {l : List Int} (h : l.length = 16) : selfB Try.prog 10000 37 (.agg (arr l)) = true := by
  obtain ⟨a0, a1, a2, a3, a4, a5, a6, a7, a8, a9, a10, a11, a12, a13, a14, a15, rfl⟩ := list16 h
  kernel_rfl
theorem eq16 {l : List Int} (h : l.length = 16) (w : World) : (binOp .eql 37 (.agg (arr l)) (.agg (arr l))).run Try.prog w = .ok (.bool true) w := run_eql_self _ _ w (self16 h)
theorem mountN_len : ∀ (q : Nat) (l : List Int) (f : Int) (ps : List Pg), l.length = 16 → (mountN ps q l f).1.length = 16
  | 0, l, f, ps, h => h
  | q + 1, l, f, ps, h => by
    rw [mountN]
    split
    · exact h
    · split
      · exact h
      · split
        · rfl
        · exact mountN_len q _ _ ps (by rw [setP_len]; exact h)
theorem mountL_len (l : List Int) (f : Int) (ps : List Pg) (h : l.length = 16) : (mountL l f ps).1.length = 16 := by
  unfold mountL
  split
  · rfl
  · exact mountN_len _ _ _ _ h

set_option maxHeartbeats 1600000 in
theorem mountTells_walk (l : List Int) (f0 : Int) (A : Option Addr) (n c : Nat) (ps : List Pg) (w : World) (hl : l.length = 16) (hr : Rd w w.heap.size 4 A n (ps.flatMap Pg.cells)) (hps : ps.length = n) (hn : n ≤ 9223372036854775807) (hnc : n ≤ c) (hcn : c ≤ 9223372036854775807) :
    Calls Try.prog 5 #[.agg (arr l), .int .i64 f0, .slice A n c] w (Ret w (.bool true)) := by
  have kR : ∀ w', Below w.heap.size w w' → Rd w' w'.heap.size 4 A n (ps.flatMap Pg.cells) := fun w' hb' => (hr.below hb').more hb'.size
  have c1 := Lib.hid (fun w' hb' => fold_any l A n c ps w' hl (kR w' hb') hps hn)
  have c2 := Lib.hid (fun w' hb' => lfold_any l A n c ps w' hl (kR w' hb') hps hn)
  have c3 := Lib.hid (fun w' hb' => mount_any l f0 A n c ps w' hl (kR w' hb') hps hn)
  have c4 := Lib.hid (fun w' hb' => lmount_any l f0 A n c ps w' hl (kR w' hb') hps hn hnc hcn)
  have hfl := foldL_len ps l hl
  have hml := mountL_len l f0 ps hl
  have HL := Lib.hid hl
  clear hr kR hl
  generalize foldL l ps = fr at c1 c2 hfl
  generalize mountL l f0 ps = mr at c3 c4 hml
  obtain ⟨fa, fe⟩ := fr
  obtain ⟨ma, mn, me⟩ := mr
  simp only [mval] at c1 c2 c3 c4 hfl hml
  have E1 := fun w => eq16 hfl w
  have E2 := fun w => eq16 hml w
  have HFL := Lib.hid hfl
  have HML := Lib.hid hml
  clear hfl hml
  have G0 := Lib.hid (Ints.new w 37 l)
  have hb0 : Below w.heap.size w (w.alloc (.cells (arr l) 37)) := (Below.refl _ _).alloc (Nat.le_refl _) _
  go_enter Try.func5, Try.ntmps5
  go_wp2_with (refine wpList_load_row rfl 37 (.tmp 3) rfl w.heap.size rfl 37 (arr l) (0, 0) (.array 16 3) G0.out Try.underlying37 rfl (size16 HL.out) ?_)
  refine (c1.out _ hb0).mono ?_; rintro e w1 ⟨rfl, hb1⟩
  have HB1 := hb0.trans (hb1.mono hb0.size)
  have F7 : Hid (Ints (w1.alloc (.cells #[.int .i64 0, .int .i64 0, .int .i64 0, .int .i64 0, .int .i64 0, .int .i64 0, .int .i64 0, .int .i64 0, .int .i64 0, .int .i64 0, .int .i64 0, .int .i64 0, .int .i64 0, .int .i64 0, .int .i64 0, .int .i64 0] 37)) w1.heap.size 37 zero16) := Lib.hid (Ints.new w1 37 zero16)
  have G1 := Lib.hid (G0.out.later hb1)
  have hz1 := hb1.size
  simp at hz1
  go_upto_region 2 with (refine wpList_store_row rfl 37 (.tmp 7) (.tmp 21) rfl w1.heap.size (arr fa) rfl rfl 37 (arr zero16) F7.out (size16 HFL.out) (by rw [arr_size, arr_size, HFL.out]; rfl) (arr_one fa) ?_)
  have F7a := Lib.hid (F7.out.row fa)
  have G1a := Lib.hid ((G1.out.alloc (.cells #[.int .i64 0, .int .i64 0, .int .i64 0, .int .i64 0, .int .i64 0, .int .i64 0, .int .i64 0, .int .i64 0, .int .i64 0, .int .i64 0, .int .i64 0, .int .i64 0, .int .i64 0, .int .i64 0, .int .i64 0, .int .i64 0] 37)).rowOther (g' := w1.heap.size) (by omega) (arr fa))
  have HB1a := below_setRow (HB1.alloc HB1.size (.cells #[.int .i64 0, .int .i64 0, .int .i64 0, .int .i64 0, .int .i64 0, .int .i64 0, .int .i64 0, .int .i64 0, .int .i64 0, .int .i64 0, .int .i64 0, .int .i64 0, .int .i64 0, .int .i64 0, .int .i64 0, .int .i64 0] 37)) HB1.size (arr fa)
  have lt7 := F7a.out.lt
  generalize g7e : w1.heap.size = g7 at F7a G1a HB1a lt7 hz1 ⊢
  generalize hw1a : (w1.alloc (.cells #[.int .i64 0, .int .i64 0, .int .i64 0, .int .i64 0, .int .i64 0, .int .i64 0, .int .i64 0, .int .i64 0, .int .i64 0, .int .i64 0, .int .i64 0, .int .i64 0, .int .i64 0, .int .i64 0, .int .i64 0, .int .i64 0] 37)).setRow g7 (arr fa) = w1a at F7a G1a HB1a lt7 ⊢
  clear hw1a F7 G1 HB1
  go_wp2_with (refine wpList_load_row rfl 37 (.tmp 3) rfl w.heap.size rfl 37 (arr l) (0, 0) (.array 16 3) G1a.out Try.underlying37 rfl (size16 HL.out) ?_)
  refine (c2.out _ HB1a).mono ?_; rintro e w2 ⟨rfl, hb2⟩
  have HB2 := HB1a.trans (hb2.mono HB1a.size)
  have F9 : Hid (Ints (w2.alloc (.cells #[.int .i64 0, .int .i64 0, .int .i64 0, .int .i64 0, .int .i64 0, .int .i64 0, .int .i64 0, .int .i64 0, .int .i64 0, .int .i64 0, .int .i64 0, .int .i64 0, .int .i64 0, .int .i64 0, .int .i64 0, .int .i64 0] 37)) w2.heap.size 37 zero16) := Lib.hid (Ints.new w2 37 zero16)
  have F72 := Lib.hid (F7a.out.later hb2)
  have G2 := Lib.hid (G1a.out.later hb2)
  have hz2 := hb2.size
  go_upto_region 3 with (refine wpList_store_row rfl 37 (.tmp 9) (.tmp 27) rfl w2.heap.size (arr fa) rfl rfl 37 (arr zero16) F9.out (size16 HFL.out) (by rw [arr_size, arr_size, HFL.out]; rfl) (arr_one fa) ?_)
  have F9a := Lib.hid (F9.out.row fa)
  have F7b := Lib.hid ((F72.out.alloc (.cells #[.int .i64 0, .int .i64 0, .int .i64 0, .int .i64 0, .int .i64 0, .int .i64 0, .int .i64 0, .int .i64 0, .int .i64 0, .int .i64 0, .int .i64 0, .int .i64 0, .int .i64 0, .int .i64 0, .int .i64 0, .int .i64 0] 37)).rowOther (g' := w2.heap.size) (by omega) (arr fa))
  have G2a := Lib.hid ((G2.out.alloc (.cells #[.int .i64 0, .int .i64 0, .int .i64 0, .int .i64 0, .int .i64 0, .int .i64 0, .int .i64 0, .int .i64 0, .int .i64 0, .int .i64 0, .int .i64 0, .int .i64 0, .int .i64 0, .int .i64 0, .int .i64 0, .int .i64 0] 37)).rowOther (g' := w2.heap.size) (by omega) (arr fa))
  have HB2a := below_setRow (HB2.alloc HB2.size (.cells #[.int .i64 0, .int .i64 0, .int .i64 0, .int .i64 0, .int .i64 0, .int .i64 0, .int .i64 0, .int .i64 0, .int .i64 0, .int .i64 0, .int .i64 0, .int .i64 0, .int .i64 0, .int .i64 0, .int .i64 0, .int .i64 0] 37)) HB2.size (arr fa)
  have lt9 := F9a.out.lt
  generalize g9e : w2.heap.size = g9 at F9a F7b G2a HB2a lt9 hz2 ⊢
  generalize hw2a : (w2.alloc (.cells #[.int .i64 0, .int .i64 0, .int .i64 0, .int .i64 0, .int .i64 0, .int .i64 0, .int .i64 0, .int .i64 0, .int .i64 0, .int .i64 0, .int .i64 0, .int .i64 0, .int .i64 0, .int .i64 0, .int .i64 0, .int .i64 0] 37)).setRow g9 (arr fa) = w2a at F9a F7b G2a HB2a lt9 ⊢
  clear hw2a F9 F72 G2 HB2 F7a G1a
  go_wp2_with (refine wpList_load_row rfl 37 (.tmp 3) rfl w.heap.size rfl 37 (arr l) (0, 0) (.array 16 3) G2a.out Try.underlying37 rfl (size16 HL.out) ?_)
  refine (c3.out _ HB2a).mono ?_; rintro e w3 ⟨rfl, hb3⟩
  have HB3 := HB2a.trans (hb3.mono HB2a.size)
  have F11 : Hid (Ints (w3.alloc (.cells #[.int .i64 0, .int .i64 0, .int .i64 0, .int .i64 0, .int .i64 0, .int .i64 0, .int .i64 0, .int .i64 0, .int .i64 0, .int .i64 0, .int .i64 0, .int .i64 0, .int .i64 0, .int .i64 0, .int .i64 0, .int .i64 0] 37)) w3.heap.size 37 zero16) := Lib.hid (Ints.new w3 37 zero16)
  have F73 := Lib.hid (F7b.out.later hb3)
  have F93 := Lib.hid (F9a.out.later hb3)
  have G3 := Lib.hid (G2a.out.later hb3)
  have hz3 := hb3.size
  go_upto_region 4 with (refine wpList_store_row rfl 37 (.tmp 11) (.tmp 34) rfl w3.heap.size (arr ma) rfl rfl 37 (arr zero16) F11.out (size16 HML.out) (by rw [arr_size, arr_size, HML.out]; rfl) (arr_one ma) ?_)
  have F11a := Lib.hid (F11.out.row ma)
  have F7c := Lib.hid ((F73.out.alloc (.cells #[.int .i64 0, .int .i64 0, .int .i64 0, .int .i64 0, .int .i64 0, .int .i64 0, .int .i64 0, .int .i64 0, .int .i64 0, .int .i64 0, .int .i64 0, .int .i64 0, .int .i64 0, .int .i64 0, .int .i64 0, .int .i64 0] 37)).rowOther (g' := w3.heap.size) (by omega) (arr ma))
  have F9c := Lib.hid ((F93.out.alloc (.cells #[.int .i64 0, .int .i64 0, .int .i64 0, .int .i64 0, .int .i64 0, .int .i64 0, .int .i64 0, .int .i64 0, .int .i64 0, .int .i64 0, .int .i64 0, .int .i64 0, .int .i64 0, .int .i64 0, .int .i64 0, .int .i64 0] 37)).rowOther (g' := w3.heap.size) (by omega) (arr ma))
  have G3a := Lib.hid ((G3.out.alloc (.cells #[.int .i64 0, .int .i64 0, .int .i64 0, .int .i64 0, .int .i64 0, .int .i64 0, .int .i64 0, .int .i64 0, .int .i64 0, .int .i64 0, .int .i64 0, .int .i64 0, .int .i64 0, .int .i64 0, .int .i64 0, .int .i64 0] 37)).rowOther (g' := w3.heap.size) (by omega) (arr ma))
  have HB3a := below_setRow (HB3.alloc HB3.size (.cells #[.int .i64 0, .int .i64 0, .int .i64 0, .int .i64 0, .int .i64 0, .int .i64 0, .int .i64 0, .int .i64 0, .int .i64 0, .int .i64 0, .int .i64 0, .int .i64 0, .int .i64 0, .int .i64 0, .int .i64 0, .int .i64 0] 37)) HB3.size (arr ma)
  have lt11 := F11a.out.lt
  generalize g11e : w3.heap.size = g11 at F11a F7c F9c G3a HB3a lt11 hz3 ⊢
  generalize hw3a : (w3.alloc (.cells #[.int .i64 0, .int .i64 0, .int .i64 0, .int .i64 0, .int .i64 0, .int .i64 0, .int .i64 0, .int .i64 0, .int .i64 0, .int .i64 0, .int .i64 0, .int .i64 0, .int .i64 0, .int .i64 0, .int .i64 0, .int .i64 0] 37)).setRow g11 (arr ma) = w3a at F11a F7c F9c G3a HB3a lt11 ⊢
  clear hw3a F11 F73 F93 G3 HB3 F7b F9a G2a
  go_wp2_with (refine wpList_load_row rfl 37 (.tmp 3) rfl w.heap.size rfl 37 (arr l) (0, 0) (.array 16 3) G3a.out Try.underlying37 rfl (size16 HL.out) ?_)
  refine (c4.out _ HB3a).mono ?_; rintro e w4 ⟨rfl, hb4⟩
  have HB4 := HB3a.trans (hb4.mono HB3a.size)
  have F14 : Hid (Ints (w4.alloc (.cells #[.int .i64 0, .int .i64 0, .int .i64 0, .int .i64 0, .int .i64 0, .int .i64 0, .int .i64 0, .int .i64 0, .int .i64 0, .int .i64 0, .int .i64 0, .int .i64 0, .int .i64 0, .int .i64 0, .int .i64 0, .int .i64 0] 37)) w4.heap.size 37 zero16) := Lib.hid (Ints.new w4 37 zero16)
  have F74 := Lib.hid (F7c.out.later hb4)
  have F94 := Lib.hid (F9c.out.later hb4)
  have F114 := Lib.hid (F11a.out.later hb4)
  have hz4 := hb4.size
  go_upto_region 5 with (refine wpList_store_row rfl 37 (.tmp 14) (.tmp 42) rfl w4.heap.size (arr ma) rfl rfl 37 (arr zero16) F14.out (size16 HML.out) (by rw [arr_size, arr_size, HML.out]; rfl) (arr_one ma) ?_)
  have F14a := Lib.hid (F14.out.row ma)
  have F7d := Lib.hid ((F74.out.alloc (.cells #[.int .i64 0, .int .i64 0, .int .i64 0, .int .i64 0, .int .i64 0, .int .i64 0, .int .i64 0, .int .i64 0, .int .i64 0, .int .i64 0, .int .i64 0, .int .i64 0, .int .i64 0, .int .i64 0, .int .i64 0, .int .i64 0] 37)).rowOther (g' := w4.heap.size) (by omega) (arr ma))
  have F9d := Lib.hid ((F94.out.alloc (.cells #[.int .i64 0, .int .i64 0, .int .i64 0, .int .i64 0, .int .i64 0, .int .i64 0, .int .i64 0, .int .i64 0, .int .i64 0, .int .i64 0, .int .i64 0, .int .i64 0, .int .i64 0, .int .i64 0, .int .i64 0, .int .i64 0] 37)).rowOther (g' := w4.heap.size) (by omega) (arr ma))
  have F11d := Lib.hid ((F114.out.alloc (.cells #[.int .i64 0, .int .i64 0, .int .i64 0, .int .i64 0, .int .i64 0, .int .i64 0, .int .i64 0, .int .i64 0, .int .i64 0, .int .i64 0, .int .i64 0, .int .i64 0, .int .i64 0, .int .i64 0, .int .i64 0, .int .i64 0] 37)).rowOther (g' := w4.heap.size) (by omega) (arr ma))
  have HB4a := below_setRow (HB4.alloc HB4.size (.cells #[.int .i64 0, .int .i64 0, .int .i64 0, .int .i64 0, .int .i64 0, .int .i64 0, .int .i64 0, .int .i64 0, .int .i64 0, .int .i64 0, .int .i64 0, .int .i64 0, .int .i64 0, .int .i64 0, .int .i64 0, .int .i64 0] 37)) HB4.size (arr ma)
  generalize g14e : w4.heap.size = g14 at F14a F7d F9d F11d HB4a ⊢
  generalize hw4a : (w4.alloc (.cells #[.int .i64 0, .int .i64 0, .int .i64 0, .int .i64 0, .int .i64 0, .int .i64 0, .int .i64 0, .int .i64 0, .int .i64 0, .int .i64 0, .int .i64 0, .int .i64 0, .int .i64 0, .int .i64 0, .int .i64 0, .int .i64 0] 37)).setRow g14 (arr ma) = w4a at F14a F7d F9d F11d HB4a ⊢
  clear hw4a F14 F74 F94 F114 HB4 F7c F9c F11a G3a c1 c2 c3 c4
  go_wp2_with (first
    | refine wpList_load_row_g rfl 37 (.tmp 7) rfl g7 rfl 37 (arr fa) (0, 0) (.array 16 3) F7d.out Try.underlying37 rfl (size16 HFL.out) ?_
    | refine wpList_load_row_g rfl 37 (.tmp 9) rfl g9 rfl 37 (arr fa) (0, 0) (.array 16 3) F9d.out Try.underlying37 rfl (size16 HFL.out) ?_
    | refine wpList_load_row_g rfl 37 (.tmp 11) rfl g11 rfl 37 (arr ma) (0, 0) (.array 16 3) F11d.out Try.underlying37 rfl (size16 HML.out) ?_
    | refine wpList_load_row_g rfl 37 (.tmp 14) rfl g14 rfl 37 (arr ma) (0, 0) (.array 16 3) F14a.out Try.underlying37 rfl (size16 HML.out) ?_)
  go_ret
  exact Ret.mk (bool_eq (by simp)) HB4a

theorem page_cells : Try.prog.cellsOf 69 = 4 := by kernel_rfl
theorem page_parse {H : Type} {enc : TypeId × Value → H} {w : World} {base : Nat} {spare : Nat → Bool} {held : Bool} (n : Nat) (cs : List Value) (y : DataW H × List MemPlace)
    (h : DataW.trod enc Try.prog w base spare held n 69 cs = some y) : ∃ x : Pg, cs = x.cells ∧ True := by
  obtain ⟨hl, m, hf⟩ := parse_fields Try.underlying69 (by kernel_rfl) (by kernel_rfl) h
  obtain ⟨v0, z0, e0, t0⟩ := hf 0 _ rfl
  obtain ⟨v1, z1, e1, t1⟩ := hf 1 _ rfl
  obtain ⟨v2, z2, e2, t2⟩ := hf 2 _ rfl
  obtain ⟨v3, z3, e3, t3⟩ := hf 3 _ rfl
  obtain ⟨a, rfl, wa⟩ := parse_int Try.underlying3 t0
  obtain ⟨d, rfl, wd⟩ := parse_int Try.underlying3 t1
  obtain ⟨m', rfl, wm⟩ := parse_int Try.underlying3 t2
  obtain ⟨b, rfl⟩ := parse_bool Try.underlying4 t3
  match cs, hl with
  | [c0, c1, c2, c3], _ =>
    simp at e0 e1 e2 e3
    subst e0 e1 e2 e3
    exact ⟨⟨a, d, m', b⟩, rfl, trivial⟩
theorem int_parse {H : Type} {enc : TypeId × Value → H} {w : World} {base : Nat} {spare : Nat → Bool} {held : Bool} (n : Nat) (cs : List Value) (y : DataW H × List MemPlace)
    (h : DataW.trod enc Try.prog w base spare held n 3 cs = some y) : ∃ x : Int, cs = [.int .i64 x] ∧ I64 x := by
  obtain ⟨z, rfl, _, wz⟩ := DataW.trod_int Try.underlying3 h
  exact ⟨z, rfl, i64_bounds wz⟩

theorem arr_flat (l : List Int) : (l.flatMap fun x : Int => [Value.int .i64 x]).toArray = arr l := by
  unfold arr
  congr 1
  induction l with
  | nil => rfl
  | cons x l ih => rw [List.flatMap_cons, ih]; rfl

set_option maxRecDepth 100000 in
theorem mountTells_lifted (os : Os) (started : os.Started) (H : Type) (enc : TypeId × Value → H) :
    ReturnsInHanded {} Try.checked os 5 .any (Rows.mountTellsSpec.pre6 enc Try.prog Try.f5 Rows.mountTellsRow.domain false)
      (Rows.mountTellsSpec.post enc Try.prog Try.f5 false true false false) := by
  refine returnsInHanded_of_change (C := Try.checked) own started (by kernel_rfl) Try.func5
    (ChangeSpec.witness6 (enc := enc) (C := Try.checked) false ⟨#[], #[.agg (arr zero16), .int .i64 0, .slice none 0 0], []⟩ 8 (by kernel_rfl) (by kernel_rfl) (by kernel_rfl) (by kernel_rfl)) ?_
  intro W base args ds gs before hval0 hW hcnd _
  have hval : ∀ (j : Nat) t v, Try.f5.params[j]? = some t → args[j]? = some v → Value.okWide Try.prog W .any base t v := hval0
  have hW0 := hW
  obtain ⟨p, q, hA0, hV, _, _, _⟩ := hW
  have hA : DataW.TrodAll enc Try.prog W 0 (fun _ => true) true Try.f5.params.toList args.toList ds p := hA0
  rw [Try.params5] at hA hval
  obtain ⟨v0, vs0, d0, ds0, p0, q0, hargs, rfl, rfl, h0, r0⟩ := trodAll_cons hA
  obtain ⟨v1, vs1, d1, ds1, p1, q1, rfl, rfl, rfl, h1, r1⟩ := trodAll_cons r0
  obtain ⟨v2, vs2, d2, ds2, p2, q2, rfl, rfl, rfl, h2, r2⟩ := trodAll_cons r1
  obtain ⟨rfl, rfl, rfl⟩ := trodAll_nil r2
  obtain rfl : args = #[v0, v1, v2] := by cases args; simp_all
  obtain ⟨l16, rfl, hl16, _⟩ := open_array (fun x : Int => [Value.int .i64 x]) I64 Try.underlying37 (show Try.prog.cellsOf 3 = 1 by kernel_rfl) (by kernel_rfl) (fun _ => rfl) int_parse (hval 0 _ v0 rfl rfl) h0
  obtain ⟨f0, rfl, rfl, rfl, wf⟩ := open_int Try.underlying3 (hval 1 _ v1 rfl rfl) h1
  obtain ⟨fu, hf⟩ := h2
  obtain ⟨A, n, cap, l, hcs, hl, hnc, hcm, _, hrd, hQ, _⟩ := open_list Pg.cells (fun _ => True) Try.underlying38 page_cells Pg.len (by omega) page_parse hf
  obtain rfl := slice_of hcs (okWide_slice Try.underlying38 (hval 2 _ v2 rfl rfl))
  unfold maxLen at hcm
  rw [arr_flat] at hW0 ⊢
  refine (mountTells_walk l16 f0 A n cap l W hl16 hrd hl (by omega) hnc (by omega)).mono fun e W' ⟨he, hg⟩ => ⟨_, he, ?_⟩
  exact law_post laidOut Try.underlying4 rfl rfl (by kernel_rfl) (fun xs hx => by
    match xs, hx with
    | [_, _, _], _ => rfl) hW0 hg

theorem mountTells_over : Rows.mountTellsRow.holds Try.pinned (OpenSpec.ofChange Rows.mountTellsSpec) :=
  OpenClaim.holds_of_wide 5 Try.f5 rfl rfl rfl rfl rfl rfl rfl ⟨rfl, rfl, rfl, rfl, rfl⟩ rfl rfl rfl rfl rfl (by kernel_rfl) Try.func5 (by kernel_rfl)
    (of_decide_eq_true (by kernel_rfl)) (by unfold Func.isWrapper; first | (rw [if_pos (by decide +kernel)]; kernel_rfl) | (rw [if_neg (by decide +kernel)]; exact ⟨rfl, rfl⟩))
    (fun os started H enc _ => mountTells_lifted os started H enc)
end Mount
theorem mountTells_holds : Rows.MountTellsSaid := Mount.mountTells_over
end Go.Proofs.Ytljdfkejhgaciaa
