/-
  VictimTells: victim.Right, Greedy and Spread answer as the reference does, for every list and every spread. Conditions: none.
-/
import Derived.Test.YtfljbiobiobamabViR
import Derived.Test.YtfljbiobiobamabParse
import Derived.Test.YtfljbiobiobamabParse3
import Derived.Test.YtfljbiobiobamabEq
import Derived.Test.YtfljbiobiobamabReach
namespace Go.Proofs.Ytfljbiobiobamab
open Go.ChangeShapes Go.WideShapes Go.ChangeAt Go.RowKit
set_option linter.unusedVariables false
namespace Vic

/-- how much the wear differs, as far as i, j have come -/
def SpU (l : List Fm) (i : Nat) (x : Fm) (j : Nat) (m : Int) : Prop := 0 ≤ m ∧ m ≤ 1048576 ∧ (∀ f ∈ l.take i, ∀ g ∈ l, f.we - g.we ≤ m) ∧ (∀ g ∈ l.take j, x.we - g.we ≤ m) ∧ (m = 0 ∨ ∃ f ∈ l, ∃ g ∈ l, f.we - g.we = m)

set_option maxRecDepth 100000 in
set_option maxHeartbeats 3200000 in
theorem victimTells_walk (A : Option Addr) (n c : Nat) (l : List Fm) (sp : Int) (w : World) (hr : Rd w w.heap.size 3 A n (l.flatMap Fm.cells)) (hl : l.length = n) (hn : n ≤ 9223372036854775807) :
    Calls Try.prog 4 #[.slice A n c, .int .i64 sp] w (Ret w (.bool true)) := by
  have HR := Lib.hid hr
  have HL := Lib.hid hl
  have cA := Lib.hid (vgreedy_any A n c l sp w hr hl hn)
  have cB := Lib.hid (fun (W : World) (hW : Below w.heap.size w W) => ggreedy_any A n c l sp W (hr.later hW) hl hn)
  have cC := Lib.hid (fun (b : Bool) (hb : b = true ↔ OkL l) (W : World) (hW : Below w.heap.size w W) => vright_any A n c l b W (hr.later hW) hl hn hb)
  have cD := Lib.hid (fun (b : Bool) (hb : b = true ↔ OkL l) (W : World) (hW : Below w.heap.size w W) => gright_any A n c l b W (hr.later hW) hl hn hb)
  clear hr hl
  go_enter Try.func4, Try.ntmps4
  go_wp2_with fail
  refine cA.out.mono ?_; rintro en w1 ⟨k1, e1, rfl, hw1, hb1⟩
  have B1 := Lib.hid hb1
  have HW1 := Lib.hid hw1
  clear hb1 hw1 cA
  go_wp2_with fail
  refine (cB.out w1 B1.out).mono ?_; rintro en w2 ⟨k2, e2, rfl, hw2, hb2⟩
  have B2 := Lib.hid (B1.out.trans (hb2.mono B1.out.size))
  obtain ⟨rfl, rfl⟩ := HW1.out.uniq hw2
  clear hb2 hw2 cB
  obtain ⟨ok, hok⟩ : ∃ ok : Bool, ok = true ↔ OkL l := ⟨decide (OkL l), by simp⟩
  have HOK := Lib.hid hok
  clear hok
  have z1 : (e1 == e1) = true := by simp
  have z2 : (k1 == k1) = true := by simp
  go_wp2_with fail
  refine (cC.out ok HOK.out w2 B2.out).mono ?_; rintro en w3 ⟨rfl, hb3⟩
  have B3 := Lib.hid (B2.out.trans (hb3.mono B2.out.size))
  clear hb3 cC
  go_wp2_with fail
  refine (cD.out ok HOK.out w3 B3.out).mono ?_; rintro en w4 ⟨rfl, hb4⟩
  have B4 := Lib.hid (B3.out.trans (hb4.mono B3.out.size))
  clear hb4
  cases ok with
  | false =>
    go_wp2_with fail
    refine (cD.out false (by simpa using HOK.out) w4 B4.out).mono ?_; rintro en w5 ⟨rfl, hb5⟩
    have B5 := Lib.hid (B4.out.trans (hb5.mono B4.out.size))
    clear hb5 cD
    go_wp2
    go_ret
    exact Ret.mk rfl B5.out
  | true =>
    go_wp2_with fail
    refine (cD.out true (by simpa using HOK.out) w4 B4.out).mono ?_; rintro en w5 ⟨rfl, hb5⟩
    have B5 := Lib.hid (B4.out.trans (hb5.mono B4.out.size))
    have HOKL : Hid (OkL l) := Lib.hid (by simpa using HOK.out)
    clear hb5 cD HOK z1 z2
    go_wp2
    go_loopg [9, 46] n (fun q v i wr => ∃ (k : Nat) (m : Int), k ≤ n ∧ q = n - k ∧ v = .int .i64 m ∧ i = .int .i64 k ∧ Hid (SpU l k ⟨0, 0, 0⟩ 0 m) ∧ Below w.heap.size w wr)
    case atStart => exact ⟨0, 0, Nat.zero_le _, rfl, rfl, rfl, Lib.hid ⟨by omega, by omega, by simp, by simp, .inl rfl⟩, B5.out⟩
    case round =>
      obtain ⟨k, m, hk, rfl, rfl, rfl, HG, hb⟩ := hrel
      have HB := Lib.hid hb
      clear hb
      by_cases hlt : k < n
      · obtain ⟨b, off, rfl, hb, hc⟩ := HR.out.at_ Fm.len (by omega)
        obtain ⟨f, hf⟩ : ∃ f, l[k]? = some f := ⟨_, List.getElem?_eq_getElem (by rw [HL.out]; exact hlt)⟩
        obtain ⟨q0, q1, q2⟩ := Fm.facts hb HB.out hc hf
        have i0 : (0 : Int) ≤ (k : Int) := by omega
        have i1 : (k : Int) < (n : Int) := by omega
        have HO := Lib.hid hf
        clear hc hf
        obtain ⟨fn, fd, fw⟩ := f
        simp only at q0 q1 q2
        have HBL := Lib.hid (HB.out.alloc HB.out.size (.cells #[.int .i64 fn, .int .i64 fd, .int .i64 fw] 34))
        have f2 := (Blk.new wr 34 [.int .i64 fn, .int .i64 fd, .int .i64 fw]).cell (k := 2) rfl
        have HRD := Lib.hid (HR.out.later HBL.out)
        have HG0 : Hid (SpU l k ⟨fn, fd, fw⟩ 0 m) := Lib.hid ⟨HG.out.1, HG.out.2.1, HG.out.2.2.1, by simp, HG.out.2.2.2.2⟩
        have hfo := (HOKL.out.2 _ (List.mem_of_getElem? HO.out)).2
        obtain ⟨hf0, hf1⟩ := hfo
        simp only at hf0 hf1
        go_upto_region 11 with (fail)
        generalize wr.alloc (.cells #[.int .i64 fn, .int .i64 fd, .int .i64 fw] 34) = wo at f2 HBL HRD ⊢
        have hgx : wr.heap.size < wo.heap.size := World.block_lt_of_cell? wo _ f2
        generalize wr.heap.size = gx at f2 hgx ⊢
        clear q0 q1 q2 HG HB
        go_wp2
        go_loopg [9, 52] n (fun q v i wl => ∃ (j : Nat) (m : Int), j ≤ n ∧ q = n - j ∧ v = .int .i64 m ∧ i = .int .i64 j ∧ Hid (SpU l k ⟨fn, fd, fw⟩ j m) ∧ Below w.heap.size w wl ∧ wl.cell? ⟨gx, 2, none⟩ = some (.int .i64 fw))
        case atStart => exact ⟨0, m, Nat.zero_le _, rfl, rfl, rfl, HG0, HBL.out, f2⟩
        case round =>
          clear f2 HG0 HBL HRD hgx
          obtain ⟨j, m, hj, rfl, rfl, rfl, HG, hb, f2⟩ := hrel
          have HB := Lib.hid hb
          clear hb
          by_cases hlt2 : j < n
          · obtain ⟨b', off', e', hb', hc'⟩ := HR.out.at_ Fm.len (by omega)
            cases e'
            obtain ⟨y, hy⟩ : ∃ y, l[j]? = some y := ⟨_, List.getElem?_eq_getElem (by rw [HL.out]; exact hlt2)⟩
            obtain ⟨p0, p1, p2⟩ := Fm.facts hb' HB.out hc' hy
            have j0 : (0 : Int) ≤ (j : Int) := by omega
            have j1 : (j : Int) < (n : Int) := by omega
            have hyw := (HOKL.out.2 _ (List.mem_of_getElem? hy)).2
            have HY := Lib.hid hy
            clear hc' hy
            obtain ⟨yn, yd, yw⟩ := y
            simp only at p0 p1 p2 hyw
            obtain ⟨hy0, hy1⟩ := hyw
            obtain ⟨dw, hdw⟩ : ∃ dw, fw - yw = dw := ⟨_, rfl⟩
            obtain ⟨mi, HMI, hmi⟩ := max2_ex Try.prog m dw
            have HBL := Lib.hid (HB.out.alloc HB.out.size (.cells #[.int .i64 yn, .int .i64 yd, .int .i64 yw] 34))
            have f2a : (wr.alloc (.cells #[.int .i64 yn, .int .i64 yd, .int .i64 yw] 34)).cell? ⟨gx, 2, none⟩ = some (.int .i64 fw) := ((Below.refl wr.heap.size wr).alloc (Nat.le_refl _) _).cell (World.block_lt_of_cell? wr _ f2) |>.trans f2
            have HN : Hid (SpU l k ⟨fn, fd, fw⟩ (j + 1) mi) := Lib.hid (by
              obtain ⟨g1, g2, g3, g4, g5⟩ := HG.out
              have hmi := HMI.out
              simp only at g4
              refine ⟨by split at hmi <;> omega, by split at hmi <;> omega, fun f hf g hg => by have := g3 f hf g hg; split at hmi <;> omega, fun g hg => ?_, ?_⟩
              · rw [List.take_add_one, HY.out] at hg
                show fw - g.we ≤ mi
                rcases List.mem_append.1 hg with h | h
                · have := g4 g h
                  split at hmi <;> omega
                · simp only [Option.toList, List.mem_singleton] at h
                  subst h
                  show fw - yw ≤ mi
                  split at hmi <;> omega
              · split at hmi
                · exact .inr ⟨⟨fn, fd, fw⟩, List.mem_of_getElem? HO.out, ⟨yn, yd, yw⟩, List.mem_of_getElem? HY.out, by show fw - yw = mi; omega⟩
                · rcases g5 with h | h
                  · exact .inl (by omega)
                  · obtain ⟨f, hf, g, hg, h⟩ := h
                    exact .inr ⟨f, hf, g, hg, by omega⟩)
            have hdb : -1048576 ≤ dw ∧ dw ≤ 1048576 := by omega
            obtain ⟨hd1, hd2⟩ := hdb
            clear HMI HG
            go_wp2
            go_roundg (n - (j + 1))
            case measure => omega
            case rel => exact ⟨j + 1, mi, by omega, rfl, rfl, by go_num, HN, HBL.out, f2a⟩
          · have HN : Hid (SpU l (k + 1) ⟨0, 0, 0⟩ 0 m) := Lib.hid (by
              obtain ⟨g1, g2, g3, g4, g5⟩ := HG.out
              refine ⟨g1, g2, fun f hf g hg => ?_, by simp, g5⟩
              rw [List.take_add_one, HO.out] at hf
              rcases List.mem_append.1 hf with h | h
              · exact g3 f h g hg
              · simp only [Option.toList, List.mem_singleton] at h
                subst h
                rw [List.take_of_length_le (by rw [HL.out]; omega)] at g4
                exact g4 g hg)
            clear HG f2
            go_wp2
            go_roundg (n - (k + 1))
            case measure => omega
            case rel => exact ⟨k + 1, m, by omega, rfl, rfl, by go_num, HN, HB.out⟩
      · have HS : Hid (Sprd l m) := Lib.hid (by
          obtain ⟨g1, g2, g3, g4, g5⟩ := HG.out
          rw [List.take_of_length_le (by rw [HL.out]; omega)] at g3
          exact ⟨g1, g3, g5⟩)
        have cS := Lib.hid (vspread_any A n c l wr (HR.out.later HB.out) HL.out hn HOKL.out)
        clear HG
        go_wp2_with fail
        refine cS.out.mono ?_; rintro en w6 ⟨m2, rfl, hs2, hb6⟩
        obtain rfl := HS.out.uniq hs2
        have B6 := Lib.hid (HB.out.trans (hb6.mono HB.out.size))
        clear hs2 hb6 cS
        go_wp2
        go_ret
        exact Ret.mk (bool_eq (by simp)) B6.out

theorem fill_cells : Try.prog.cellsOf 34 = 3 := by kernel_rfl
theorem fill_parse {H : Type} {enc : TypeId × Value → H} {w : World} {base : Nat} {spare : Nat → Bool} {held : Bool} (n : Nat) (cs : List Value) (y : DataW H × List MemPlace)
    (h : DataW.trod enc Try.prog w base spare held n 34 cs = some y) : ∃ x : Fm, cs = x.cells ∧ True := by
  obtain ⟨hl, m, hf⟩ := parse_fields Try.underlying34 (by kernel_rfl) (by kernel_rfl) h
  obtain ⟨v0, z0, e0, t0⟩ := hf 0 _ rfl
  obtain ⟨v1, z1, e1, t1⟩ := hf 1 _ rfl
  obtain ⟨v2, z2, e2, t2⟩ := hf 2 _ rfl
  obtain ⟨a, rfl, _⟩ := parse_int Try.underlying3 t0
  obtain ⟨d, rfl, _⟩ := parse_int Try.underlying3 t1
  obtain ⟨m', rfl, _⟩ := parse_int Try.underlying3 t2
  match cs, hl with
  | [c0, c1, c2], _ =>
    simp at e0 e1 e2
    subst e0 e1 e2
    exact ⟨⟨a, d, m'⟩, rfl, trivial⟩

set_option maxRecDepth 100000 in
set_option maxHeartbeats 400000 in
theorem victimTells_lifted (os : Os) (started : os.Started) (H : Type) (enc : TypeId × Value → H) :
    ReturnsInHanded {} Try.checked os 4 .any (Rows.victimTellsSpec.pre6 enc Try.prog Try.f4 Rows.victimTellsRow.domain false)
      (Rows.victimTellsSpec.post enc Try.prog Try.f4 false true false false) := by
  refine returnsInHanded_of_change (C := Try.checked) own started (by kernel_rfl) Try.func4
    (ChangeSpec.witness6 (enc := enc) (C := Try.checked) false ⟨#[], #[.slice none 0 0, .int .i64 0], []⟩ 8 (by kernel_rfl) (by kernel_rfl) (by kernel_rfl) (by kernel_rfl)) ?_
  intro W base args ds gs before hval0 hW hcnd _
  have hval : ∀ (j : Nat) t v, Try.f4.params[j]? = some t → args[j]? = some v → Value.okWide Try.prog W .any base t v := hval0
  have hW0 := hW
  obtain ⟨p, q, hA0, hV, _, _, _⟩ := hW
  have hA : DataW.TrodAll enc Try.prog W 0 (fun _ => true) true Try.f4.params.toList args.toList ds p := hA0
  rw [Try.params4] at hA hval
  obtain ⟨v0, vs0, d0, ds0, p0, q0, hargs, rfl, rfl, h0, r0⟩ := trodAll_cons hA
  obtain ⟨v1, vs1, d1, ds1, p1, q1, rfl, rfl, rfl, h1, r1⟩ := trodAll_cons r0
  obtain ⟨rfl, rfl, rfl⟩ := trodAll_nil r1
  obtain rfl : args = #[v0, v1] := by cases args; simp_all
  obtain ⟨b, rfl, rfl, rfl, _⟩ := open_int Try.underlying3 (hval 1 _ v1 rfl rfl) h1
  obtain ⟨fu, hf⟩ := h0
  obtain ⟨A, n, cap, l, hcs, hl, hnc, hcm, _, hrd, _, _⟩ := open_list Fm.cells (fun _ => True) Try.underlying28 fill_cells Fm.len (by omega) fill_parse hf
  obtain rfl := slice_of hcs (okWide_slice Try.underlying28 (hval 0 _ v0 rfl rfl))
  unfold maxLen at hcm
  refine (victimTells_walk A n cap l b W hrd hl (by omega)).mono fun e W' ⟨he, hg⟩ => ⟨_, he, ?_⟩
  exact law_post laidOut Try.underlying4 rfl rfl (by kernel_rfl) (fun xs hx => by
    match xs, hx with
    | [_, _], _ => rfl) hW0 hg
theorem victimTells_over : Rows.victimTellsRow.holds Try.pinned (OpenSpec.ofChange Rows.victimTellsSpec) :=
  OpenClaim.holds_of_wide 4 Try.f4 rfl rfl rfl rfl rfl rfl rfl ⟨rfl, rfl, rfl, rfl, rfl⟩ rfl rfl rfl rfl rfl (by kernel_rfl) Try.func4 (by kernel_rfl)
    (of_decide_eq_true (by kernel_rfl)) (by unfold Func.isWrapper; first | (rw [if_pos (by decide +kernel)]; kernel_rfl) | (rw [if_neg (by decide +kernel)]; exact ⟨rfl, rfl⟩))
    (fun os started H enc _ => victimTells_lifted os started H enc)
theorem victimTells_holds : Rows.VictimTellsSaid := victimTells_over
end Vic
theorem victimTells_holds : Rows.VictimTellsSaid := Vic.victimTells_holds
end Go.Proofs.Ytfljbiobiobamab
