/-
  DirRenames: dir.Rename answers as the reference does, for every folder and all names. Conditions: none.
-/
import Derived.Test.YtelgalhkggnkbabDrN
import Derived.Test.YtelgalhkggnkbabParse
import Derived.Test.YtelgalhkggnkbabParse3
import Derived.Test.YtelgalhkggnkbabReach
import Derived.ChangeMaps5
namespace Go.Proofs.Ytelgalhkggnkbab
open Go.ChangeShapes Go.WideShapes Go.ChangeAt Go.RowKit
set_option linter.unusedVariables false
namespace Dr

set_option maxRecDepth 100000 in
set_option maxHeartbeats 3200000 in
theorem dirRenames_walk (A : Option Addr) (n c : Nat) (l : List En) (fr tn : ByteArray) (w : World) (hr : Rd w w.heap.size 2 A n (l.flatMap En.cells)) (hl : l.length = n) (hn : n ≤ 5864062014804) (hsz : ∀ e ∈ l, e.nm.size ≤ 9223372036854775807) (hto : tn.size ≤ 9223372036854775807) :
    Calls Try.prog 3 #[.slice A n c, .string fr, .string tn] w (Ret w (.bool true)) := by
  obtain ⟨rb, hrb⟩ : ∃ rb : Bool, rb = true ↔ RightL l := ⟨decide (RightL l), by simp⟩
  obtain ⟨gb, hgb⟩ : ∃ gb : Bool, gb = true ↔ GoodB tn := ⟨decide (GoodB tn), by simp⟩
  obtain ⟨sb, hsb⟩ : ∃ sb : Bool, (fr.toList == tn.toList) = sb := ⟨_, rfl⟩
  have HR := Lib.hid hr
  have HL := Lib.hid hl
  have HRB := Lib.hid hrb
  have HGB := Lib.hid hgb
  have cN := Lib.hid (rename_any A n c l fr tn w hr hl hn)
  have cAf := Lib.hid (fun W (hW : Below w.heap.size w W) => oat_any A n c l fr W (hr.later hW) hl (by omega))
  have cAt := Lib.hid (fun W (hW : Below w.heap.size w W) => oat_any A n c l tn W (hr.later hW) hl (by omega))
  have cRo := Lib.hid (fun W (hW : Below w.heap.size w W) => oright_any A n c l rb W (hr.later hW) hl (by omega) hsz hrb)
  have cGo := Lib.hid (fun W => ogood_any tn gb W hto hgb)
  have cK := Lib.hid (fun W (hW : Below w.heap.size w W) => eclone_any A n c (l.flatMap En.cells) W (hr.later hW) (En.one l) (by omega) (by omega))
  clear hr hl hrb hgb
  go_enter Try.func3, Try.ntmps3
  go_wp2_with fail
  refine cN.out.mono ?_; rintro en w1 ⟨A1, c1, o1, er, rfl, hren, hr1, hb1⟩
  obtain ⟨n1, hn1⟩ : ∃ n1, n1 = o1.length := ⟨_, rfl⟩
  rw [← hn1] at hr1 ⊢
  have HR1 := Lib.hid hr1
  have HN1 := Lib.hid hn1
  have B1 := Lib.hid hb1
  clear hr1 hn1 hb1 cN
  go_wp2_with fail
  refine (cAf.out w1 B1.out).mono ?_; rintro en w2 ⟨kk, rfl, hat, hb2⟩
  have B2 := Lib.hid (B1.out.trans (hb2.mono B1.out.size))
  have HR1' := Lib.hid (HR1.out.later hb2)
  have HAT := Lib.hid hat
  clear hat hb2 cAf HR1
  go_wp2_with fail
  refine (cRo.out w2 B2.out).mono ?_; rintro en w3 ⟨rfl, hb3⟩
  have B3 := Lib.hid (B2.out.trans (hb3.mono B2.out.size))
  have HR1 := Lib.hid (HR1'.out.later hb3)
  clear hb3 cRo HR1'
  cases hren with
  | form h =>
    obtain rfl : rb = false := by cases rb; rfl; exact absurd (HRB.out.1 rfl) h
    obtain rfl : n1 = 0 := by rw [HN1.out]; rfl
    clear h
    go_wp2
    go_ret
    exact Ret.mk rfl B3.out
  | none h h1 =>
    obtain rfl := HRB.out.2 h
    obtain rfl : n1 = 0 := by rw [HN1.out]; rfl
    obtain rfl := HAT.out.inv3 h1
    clear h h1
    go_wp2
    go_ret
    exact Ret.mk rfl B3.out
  | same h i x h1 h2 h3 =>
    obtain rfl := HRB.out.2 h
    obtain rfl := HAT.out.inv2 h h1 h2
    obtain rfl : sb = true := by rw [← hsb, h3]; simp
    have cE := Lib.hid (equal_entries A1 A n1 c1 c l w3 HR1.out (by rw [HN1.out, HL.out]; exact HR.out.later B3.out) HN1.out.symm (by rw [HN1.out, HL.out]; omega))
    obtain rfl : n1 = n := by rw [HN1.out, HL.out]
    have i0 : ((i : Int) < 0) = False := by simp
    clear h h1 h2 h3
    go_wp2_with fail
    refine cE.out.mono ?_; rintro en w4 ⟨rfl, hb4⟩
    have B4 := Lib.hid (B3.out.trans (hb4.mono B3.out.size))
    clear hb4 cE
    go_wp2
    go_ret
    exact Ret.mk rfl B4.out
  | range h i x h1 h2 h3 h4 =>
    obtain rfl := HRB.out.2 h
    obtain rfl := HAT.out.inv2 h h1 h2
    obtain rfl : n1 = 0 := by rw [HN1.out]; rfl
    obtain rfl : sb = false := by cases sb; rfl; exact absurd (toList_inj (by rwa [beq_iff_eq] at hsb)) h3
    obtain rfl : gb = false := by cases gb; rfl; exact absurd (HGB.out.1 rfl) h4
    clear h h1 h2 h3 h4
    go_wp2_with fail
    refine (cGo.out w3).mono ?_; rintro en w4 ⟨rfl, hb4⟩
    have B4 := Lib.hid (B3.out.trans (hb4.mono B3.out.size))
    clear hb4 cGo
    go_wp2
    go_ret
    exact Ret.mk rfl B4.out
  | held h i x h1 h2 h3 h4 h5 =>
    obtain rfl := HRB.out.2 h
    obtain rfl := HAT.out.inv2 h h1 h2
    obtain rfl : n1 = 0 := by rw [HN1.out]; rfl
    obtain rfl : sb = false := by cases sb; rfl; exact absurd (toList_inj (by rwa [beq_iff_eq] at hsb)) h3
    obtain rfl := HGB.out.2 h4
    obtain ⟨y, hy, hyn⟩ := h5
    obtain ⟨j, hj⟩ := List.mem_iff_getElem?.1 hy
    have HH := Lib.hid h
    have HJ := Lib.hid hj
    have HY := Lib.hid hyn
    clear h h1 h2 h3 h4 hy hyn hj
    go_wp2_with fail
    refine (cGo.out w3).mono ?_; rintro en w4 ⟨rfl, hb4⟩
    have B4 := Lib.hid (B3.out.trans (hb4.mono B3.out.size))
    clear hb4 cGo
    go_wp2_with fail
    refine (cAt.out w4 B4.out).mono ?_; rintro en w5 ⟨k2, rfl, hat2, hb5⟩
    obtain rfl := hat2.inv2 HH.out HJ.out HY.out
    have B5 := Lib.hid (B4.out.trans (hb5.mono B4.out.size))
    clear hb5 hat2 cAt
    have i0 : (0 : Int) ≤ (j : Int) := by omega
    go_wp2
    go_ret
    exact Ret.mk rfl B5.out
  | ok h i x h1 h2 h3 h4 h5 =>
    obtain rfl := HRB.out.2 h
    obtain rfl := HAT.out.inv2 h h1 h2
    obtain rfl : sb = false := by cases sb; rfl; exact absurd (toList_inj (by rwa [beq_iff_eq] at hsb)) h3
    obtain rfl := HGB.out.2 h4
    have hil : i < n := by rw [← HL.out]; exact (List.getElem?_eq_some_iff.1 h1).1
    have hlen : (l.set i ⟨tn, x.id⟩).length = n := by rw [List.length_set, HL.out]
    have HN1' : Hid (n1 = n) := Lib.hid (by rw [HN1.out, Srt.isort_len, hlen])
    obtain rfl := HN1'.out
    have HH := Lib.hid h
    have HX := Lib.hid h1
    have H5 := Lib.hid h5
    clear h h1 h2 h3 h4 h5 HN1' HN1
    go_wp2_with fail
    refine (cGo.out w3).mono ?_; rintro en w4 ⟨rfl, hb4⟩
    have B4 := Lib.hid (B3.out.trans (hb4.mono B3.out.size))
    have HR1' := Lib.hid (HR1.out.later hb4)
    clear hb4 cGo HR1
    go_wp2_with fail
    refine (cAt.out w4 B4.out).mono ?_; rintro en w5 ⟨k2, rfl, hat2, hb5⟩
    obtain rfl := hat2.inv3 H5.out
    have B5 := Lib.hid (B4.out.trans (hb5.mono B4.out.size))
    have HR1 := Lib.hid (HR1'.out.later hb5)
    clear hb5 hat2 cAt HR1'
    go_wp2_with fail
    refine (cK.out w5 B5.out).mono ?_; rintro en w6 ⟨A5, c5, hc5, rfl, hs6⟩
    have HS := Lib.hid hs6
    clear hs6 cK
    obtain ⟨g5, rfl, hg5, hat⟩ := HS.out.rowAt 0 rfl (by omega)
    have d0 := (hat _).1 _ (En.rowCells HX.out).1
    have u0 := (hat (i * 2)).2.1
    have i0 : (0 : Int) ≤ (i : Int) := by omega
    have i1 : (i : Int) < (n1 : Int) := by omega
    have K := (hat (i * 2)).2.2 (.string tn)
    rw [List.set_cons_zero, show i * 2 = i * 2 + 0 from rfl, flat_set1 En.len (x := x) (y := ⟨tn, x.id⟩) (by decide) rfl l i HX.out] at K
    have HK := Lib.hid K
    clear hat K
    go_upto_region 18 with (fail)
    have HK' : Hid (Sep w5 (w6.setCell ⟨g5, i * 2, none⟩ (.string tn)) [.row 30 2 (.slice (some ⟨g5, 0, none⟩) n1 c5) n1 ((l.set i ⟨tn, x.id⟩).flatMap En.cells)]) := HK
    generalize w6.setCell ⟨g5, i * 2, none⟩ (.string tn) = w7 at HK' ⊢
    clear HK HS d0 u0
    have cO := Lib.hid (osort_any (some ⟨g5, 0, none⟩) n1 c5 (l.set i ⟨tn, x.id⟩) w7 (HK'.out.rd 0 rfl) hlen (by omega))
    go_wp2_with fail
    refine cO.out.mono ?_; rintro en w8 ⟨A8, c8, rfl, hs8⟩
    have HS8 := Lib.hid (HK'.out.join hs8)
    have HR1' := Lib.hid (HR1.out.later HS8.out.below)
    clear HK' hs8 cO HR1
    have cE := Lib.hid (equal_entries A1 A8 n1 c1 c8 (Srt.isort ltE l.length (l.set i ⟨tn, x.id⟩)) w8 HR1'.out (by rw [HL.out]; exact HS8.out.rd 1 rfl) (by rw [Srt.isort_len, hlen]) (by omega))
    go_wp2_with fail
    refine cE.out.mono ?_; rintro en w9 ⟨rfl, hb9⟩
    have B9 := Lib.hid (B5.out.trans ((HS8.out.below.trans (hb9.mono HS8.out.below.size)).mono B5.out.size))
    go_wp2
    go_ret
    exact Ret.mk rfl B9.out

theorem entry_cells : Try.prog.cellsOf 30 = 2 := by kernel_rfl
theorem entry_bytes : Try.prog.bytesOf 30 = 24 := by kernel_rfl
theorem entry_parse {H : Type} {enc : TypeId × Value → H} {w : World} {base : Nat} {spare : Nat → Bool} {held : Bool} (n : Nat) (cs : List Value) (y : DataW H × List MemPlace)
    (h : DataW.trod enc Try.prog w base spare held n 30 cs = some y) : ∃ x : En, cs = x.cells ∧ x.nm.size ≤ maxLen := by
  obtain ⟨hl, m, hf⟩ := parse_fields Try.underlying30 (by kernel_rfl) (by kernel_rfl) h
  obtain ⟨v0, z0, e0, t0⟩ := hf 0 _ rfl
  obtain ⟨v1, z1, e1, t1⟩ := hf 1 _ rfl
  obtain ⟨a, rfl, ha⟩ := parse_string Try.underlying9 t0
  obtain ⟨b, rfl, _⟩ := parse_int Try.underlying3 t1
  match cs, hl with
  | [c0, c1], _ =>
    simp at e0 e1
    subst e0 e1
    exact ⟨⟨a, b⟩, rfl, ha⟩

set_option maxRecDepth 100000 in
set_option maxHeartbeats 400000 in
theorem dirRenames_lifted (os : Os) (started : os.Started) (H : Type) (enc : TypeId × Value → H) :
    ReturnsInHanded {} Try.checked os 3 .any (Rows.dirRenamesSpec.pre6 enc Try.prog Try.f3 Rows.dirRenamesRow.domain false)
      (Rows.dirRenamesSpec.post enc Try.prog Try.f3 false true false false) := by
  refine returnsInHanded_of_change_sized (C := Try.checked) own started (by kernel_rfl) Try.func3
    (ChangeSpec.witness6 (enc := enc) (C := Try.checked) false ⟨#[], #[.slice none 0 0, .string ⟨#[]⟩, .string ⟨#[]⟩], []⟩ 8 (by kernel_rfl) (by kernel_rfl) (by kernel_rfl) (by kernel_rfl)) ?_
  intro W base args ds gs before hval0 hW hcnd hsz0 _
  have hval : ∀ (j : Nat) t v, Try.f3.params[j]? = some t → args[j]? = some v → Value.okWide Try.prog W .any base t v := hval0
  have hsz : (DataW.weightsEach Try.prog (Try.f3.params.toList ++ Rows.dirRenamesSpec.plain.varTypes Try.prog) (ds ++ gs)).all (· ≤ reachBytes) = true := hsz0
  have hW0 := hW
  obtain ⟨p, q, hA0, hV, _, _, _⟩ := hW
  have hA : DataW.TrodAll enc Try.prog W 0 (fun _ => true) true Try.f3.params.toList args.toList ds p := hA0
  rw [Try.params3] at hA hval hsz
  obtain ⟨v0, vs0, d0, ds0, p0, q0, hargs, rfl, rfl, h0, r0⟩ := trodAll_cons hA
  obtain ⟨v1, vs1, d1, ds1, p1, q1, rfl, rfl, rfl, h1, r1⟩ := trodAll_cons r0
  obtain ⟨v2, vs2, d2, ds2, p2, q2, rfl, rfl, rfl, h2, r2⟩ := trodAll_cons r1
  obtain ⟨rfl, rfl, rfl⟩ := trodAll_nil r2
  obtain rfl : args = #[v0, v1, v2] := by cases args; simp_all
  obtain ⟨fu0, hf0⟩ := h0
  obtain ⟨A, n, cap, l, hcs, hl, hnc, hcm, _, hrd, hQ, hd⟩ := open_list En.cells (fun x => x.nm.size ≤ maxLen) Try.underlying22 entry_cells En.len (by omega) entry_parse hf0
  obtain rfl := slice_of hcs (okWide_slice Try.underlying22 (hval 0 _ v0 rfl rfl))
  obtain ⟨s1, rfl, rfl, rfl, hm1⟩ := Go.ChangeMaps.open_string Try.underlying9 (hval 1 _ v1 rfl rfl) h1
  obtain ⟨s2, rfl, rfl, rfl, hm2⟩ := Go.ChangeMaps.open_string Try.underlying9 (hval 2 _ v2 rfl rfl) h2
  have hn := reach_of hsz (j := 0) rfl rfl Try.underlying22 entry_bytes hd
  refine (dirRenames_walk A n cap l s1 s2 W hrd hl (by omega) hQ hm2).mono fun e W' ⟨he, hg⟩ => ⟨_, he, ?_⟩
  exact law_post laidOut Try.underlying4 rfl rfl (by kernel_rfl) (fun xs hx => by
    match xs, hx with
    | [_, _, _], _ => rfl) hW0 hg
theorem dirRenames_over : Rows.dirRenamesRow.holds Try.pinned (OpenSpec.ofChange Rows.dirRenamesSpec) :=
  OpenClaim.holds_of_wide 3 Try.f3 rfl rfl rfl rfl rfl rfl rfl ⟨rfl, rfl, rfl, rfl, rfl⟩ rfl rfl rfl rfl rfl (by kernel_rfl) Try.func3 (by kernel_rfl)
    (of_decide_eq_true (by kernel_rfl)) (by unfold Func.isWrapper; first | (rw [if_pos (by decide +kernel)]; kernel_rfl) | (rw [if_neg (by decide +kernel)]; exact ⟨rfl, rfl⟩))
    (fun os started H enc _ => dirRenames_lifted os started H enc)
theorem dirRenames_holds : Rows.DirRenamesSaid := dirRenames_over
end Dr
end Go.Proofs.Ytelgalhkggnkbab
