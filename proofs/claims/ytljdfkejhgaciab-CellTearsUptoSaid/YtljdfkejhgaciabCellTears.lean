/-
  CellTears: cell.Torn answers as the reference's CTorn does. Conditions: bulk at most 1048576 (the second form): longer bytes' bits need more than a slice of bools can bear.
-/
import Derived.Test.YtljdfkejhgaciabCellW4
import Derived.Test.YtljdfkejhgaciabParse
import Derived.Test.YtljdfkejhgaciabBulk
namespace Go.Proofs.Ytljdfkejhgaciab
open Go.ChangeShapes Go.WideShapes Go.ChangeAt Go.RowKit
namespace Cell

theorem getD_lt {l : List Nat} (h : ∀ x ∈ l, x < 256) (k : Nat) : l.getD k 0 < 256 := by
  rw [List.getD_eq_getElem?_getD]
  cases hk : l[k]? with
  | none => simp
  | some x => simpa using h x (List.mem_of_getElem? hk)
theorem tornE_small (o t : List Nat) (row : List Bool) : ∀ x ∈ (tornE o t row).1, x < 256 := by
  intro x hx
  unfold tornE at hx
  split at hx
  · cases hx
  · split at hx
    · simp only [tornL, bytesOf, List.mem_map] at hx
      obtain ⟨j, _, rfl⟩ := hx
      exact byteN_lt _ 8
    · cases hx

set_option maxHeartbeats 800000 in
theorem tears_walk (A A' R : Option Addr) (n c n' c' m cr : Nat) (o t : List Nat) (row : List Bool) (w : World) (hr : Rd w w.heap.size 1 A n (o.flatMap bcell)) (hl : o.length = n) (hn : n ≤ 1048576) (hb : ∀ x ∈ o, x < 256)
    (hr' : Rd w w.heap.size 1 A' n' (t.flatMap bcell)) (hl' : t.length = n') (hn' : n' ≤ 1048576) (hb' : ∀ x ∈ t, x < 256) (hrr : Rd w w.heap.size 1 R m (row.flatMap rcell)) (hlr : row.length = m) (hm : m ≤ 1048576) :
    Calls Try.prog 4 #[.slice A n c, .slice A' n' c', .slice R m cr] w (Ret w (.bool true)) := by
  have c1 := Lib.hid (torn_any A A' R n c n' c' m cr o t row w hr hl hn hb hr' hl' hn' hb' hrr hlr hm)
  have c2 := Lib.hid (fun w' (hbw : Below w.heap.size w w') => ctorn_any A A' R n c n' c' m cr o t row w' ((hr.below hbw).more hbw.size) hl hn hb ((hr'.below hbw).more hbw.size) hl' hn' hb' ((hrr.below hbw).more hbw.size) hlr hm)
  have HS := Lib.hid (tornE_small o t row)
  clear hr hl hb hr' hl' hb' hrr hlr
  generalize tornE o t row = p at c1 c2 HS
  obtain ⟨pl, pe⟩ := p
  go_enter Try.func4, Try.ntmps4
  go_wp2_with fail
  refine c1.out.mono ?_; rintro e w1 ⟨v1, rfl, ho1, hb1⟩
  have HO1 := Lib.hid ho1
  clear ho1
  go_wp2_with fail
  refine (c2.out _ hb1).mono ?_; rintro e w2 ⟨v2, rfl, ho2, hb2⟩
  have HO2 := Lib.hid ho2
  have hb12 := hb1.trans (hb2.mono hb1.size)
  clear ho2
  have k1 := run_str_own (P := Try.prog) 23 9 5 Try.underlying23 Try.underlying5 Try.underlying9 (own_below HO1.out hb2) HS.out
  have k2 := run_str_own (P := Try.prog) 23 9 5 Try.underlying23 Try.underlying5 Try.underlying9 HO2.out HS.out
  generalize strOf pl = sx at k1 k2
  have ht : (pe == pe) = true := by simp
  clear hb1 hb2
  go_wp2
  go_ret
  exact Ret.mk (bool_eq (by simp)) hb12

theorem byte_cells : Try.prog.cellsOf 5 = 1 := by kernel_rfl
theorem byte_parse {H : Type} {enc : TypeId × Value → H} {w : World} {base : Nat} {spare : Nat → Bool} {held : Bool} (n : Nat) (cs : List Value) (y : DataW H × List MemPlace)
    (h : DataW.trod enc Try.prog w base spare held n 5 cs = some y) : ∃ x : Nat, cs = bcell x ∧ x < 256 := by
  obtain ⟨z, rfl, _, wz⟩ := DataW.trod_int Try.underlying5 h
  obtain ⟨h0, h1⟩ := u8_bounds wz
  exact ⟨z.toNat, by simp [bcell]; omega, by omega⟩
theorem bool_cells : Try.prog.cellsOf 4 = 1 := by kernel_rfl
theorem bool_parse {H : Type} {enc : TypeId × Value → H} {w : World} {base : Nat} {spare : Nat → Bool} {held : Bool} (n : Nat) (cs : List Value) (y : DataW H × List MemPlace)
    (h : DataW.trod enc Try.prog w base spare held n 4 cs = some y) : ∃ x : Bool, cs = rcell x ∧ True := by
  obtain ⟨z, rfl, _⟩ := DataW.trod_bool Try.underlying4 h
  exact ⟨z, rfl, trivial⟩

set_option maxRecDepth 100000 in
theorem tears_lifted (os : Os) (started : os.Started) (H : Type) (enc : TypeId × Value → H) (F : Stop.Interp) :
    ReturnsInHanded {} Try.checked os 4 .any ((Rows.OpenSpec.upto Rows.cellTearsSpec).pre6 enc Try.prog Try.f4 Rows.cellTearsUptoRow.domain false)
      (((Rows.OpenSpec.upto Rows.cellTearsSpec).at F).post enc Try.prog Try.f4 false true false false) := by
  refine returnsInHanded_of_cond (C := Try.checked) (s := Rows.OpenSpec.upto Rows.cellTearsSpec) (k := Rows.uptoSmall) rfl own started (by kernel_rfl) Try.func4
    (OpenSpec.witness (enc := enc) (C := Try.checked) (s := Rows.OpenSpec.upto Rows.cellTearsSpec) (k := Rows.uptoSmall) rfl false ⟨#[], #[.slice none 0 0, .slice none 0 0, .slice none 0 0], []⟩ 8 (by kernel_rfl) (by kernel_rfl) (by kernel_rfl)
      (x := ([.nil, .nil, .nil], [], [])) (by kernel_rfl) rfl (by kernel_rfl)) ?_
  intro W base args ds gs before hval0 hW hcnd hk _
  have hval : ∀ (j : Nat) t v, Try.f4.params[j]? = some t → args[j]? = some v → Value.okWide Try.prog W .any base t v := hval0
  have hW0 := hW
  obtain ⟨p, q, hA0, hV, _, _, _⟩ := hW
  have hA : DataW.TrodAll enc Try.prog W 0 (fun _ => true) true Try.f4.params.toList args.toList ds p := hA0
  rw [Try.params4] at hA hval
  obtain ⟨v0, vs0, d0, ds0, p0, q0, hargs, rfl, rfl, h0, r0⟩ := trodAll_cons hA
  obtain ⟨v1, vs1, d1, ds1, p1, q1, rfl, rfl, rfl, h1, r1⟩ := trodAll_cons r0
  obtain ⟨v2, vs2, d2, ds2, p2, q2, rfl, rfl, rfl, h2, r2⟩ := trodAll_cons r1
  obtain ⟨rfl, rfl, rfl⟩ := trodAll_nil r2
  obtain rfl : args = #[v0, v1, v2] := by cases args; simp_all
  obtain ⟨fu, hf⟩ := h0
  obtain ⟨A, n, cap, l, hcs, hl, hnc, hcm, _, hrd, hQ, hd⟩ := open_list bcell (fun x => x < 256) Try.underlying23 byte_cells bcell_len (by omega) byte_parse hf
  obtain rfl := slice_of hcs (okWide_slice Try.underlying23 (hval 0 _ v0 rfl rfl))
  obtain ⟨fu', hf'⟩ := h1
  obtain ⟨A', n', cap', l', hcs', hl', hnc', hcm', _, hrd', hQ', hd'⟩ := open_list bcell (fun x => x < 256) Try.underlying23 byte_cells bcell_len (by omega) byte_parse hf'
  obtain rfl := slice_of hcs' (okWide_slice Try.underlying23 (hval 1 _ v1 rfl rfl))
  obtain ⟨fu2, hf2⟩ := h2
  obtain ⟨R, m, capr, row, hcsr, hlr, hncr, hcmr, _, hrdr, _, hdr⟩ := open_list rcell (fun _ => True) Try.underlying29 bool_cells rcell_len (by omega) bool_parse hf2
  obtain rfl := slice_of hcsr (okWide_slice Try.underlying29 (hval 2 _ v2 rfl rfl))
  have hn := bulk_slice hk (by simp) hd
  have hn' := bulk_slice hk (by simp) hd'
  have hm := bulk_slice hk (by simp) hdr
  refine (tears_walk A A' R n cap n' cap' m capr l l' row W hrd hl hn hQ hrd' hl' hn' hQ' hrdr hlr hm).mono fun e W' ⟨he, hg⟩ => ⟨_, he, ?_⟩
  exact law_post laidOut Try.underlying4 rfl rfl (by kernel_rfl) (fun xs hx => by
    match xs, hx with
    | [_, _, _], _ => rfl) hW0 hg

theorem tears_over : Rows.cellTearsUptoRow.holds Try.pinned (Rows.OpenSpec.upto Rows.cellTearsSpec) :=
  OpenClaim.holds_of_cond 4 Try.f4 rfl rfl rfl rfl rfl rfl rfl ⟨rfl, rfl, rfl, rfl, rfl⟩ rfl rfl rfl rfl rfl (by kernel_rfl) Try.func4 (by kernel_rfl)
    (of_decide_eq_true (by kernel_rfl)) (by unfold Func.isWrapper; first | (rw [if_pos (by decide +kernel)]; kernel_rfl) | (rw [if_neg (by decide +kernel)]; exact ⟨rfl, rfl⟩))
    (fun os started H enc _ F => tears_lifted os started H enc F)
end Cell
theorem cellTears_holds : Rows.CellTearsUptoSaid := Cell.tears_over
end Go.Proofs.Ytljdfkejhgaciab
