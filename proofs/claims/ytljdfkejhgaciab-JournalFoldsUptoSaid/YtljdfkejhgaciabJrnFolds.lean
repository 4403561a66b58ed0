/-
  JournalFolds: journal.Fold answers as the reference does, for every list of records. Conditions: what is read is of bulk at most 1048576 (the second form): a longer list's encodings may pass what append can bear.
-/
import Derived.Test.YtljdfkejhgaciabJrnW
import Derived.Test.YtljdfkejhgaciabParse
import Derived.Test.YtljdfkejhgaciabBulk
namespace Go.Proofs.Ytljdfkejhgaciab
open Go.ChangeShapes Go.WideShapes Go.ChangeAt Go.RowKit
namespace Jrn
open Crc

theorem fold_small : ∀ (l : List Rec) (acc : List Nat), (∀ r ∈ l, ∀ x ∈ r.bs, x < 256) → (∀ x ∈ acc, x < 256) → ∀ x ∈ (foldR l acc).1, x < 256
  | [], acc, _, ha => ha
  | r :: t, acc, hl, ha => by
    rw [foldR]
    split
    · simp
    · refine fold_small t _ (fun r' hr' => hl r' (by simp [hr'])) (fun x hx => ?_)
      rcases List.mem_append.1 hx with h | h
      · exact ha x h
      · exact write_small (hl r (by simp)) x h

set_option maxHeartbeats 1600000 in
theorem folds_walk (A : Option Addr) (n c : Nat) (l : List Rec) (w : World) (hr : Rd w w.heap.size 1 A n (l.flatMap Rec.cells)) (hl : l.length = n) (hn : n ≤ 1048576) (hq : ∀ r ∈ l, r.ok w) :
    Calls Try.prog 6 #[.slice A n c] w (Ret w (.bool true)) := by
  obtain ⟨i0, hi, hz0, hz1, hz2⟩ := info_parts byte_info
  have HR := Lib.hid hr
  have HL := Lib.hid hl
  have HQ := Lib.hid hq
  have cF := fold_any A n c l w hr hl hn hq
  have hsm := fold_small l [] (fun r hr' => (hq r hr').2.2.2) (by simp)
  clear hr hl hq
  generalize hfe : foldR l [] = fe at cF hsm
  obtain ⟨al, ae⟩ := fe
  have HFE := Lib.hid hfe
  have HSM := Lib.hid hsm
  clear hfe hsm
  generalize hna : al.length = na at cF
  unfold SealRet at cF
  simp only [hna] at cF
  have HNA := Lib.hid hna
  have HCF := Lib.hid cF
  clear hna cF
  go_enter Try.func6, Try.ntmps6
  go_wp2_with fail
  refine HCF.out.mono ?_; rintro e w1 ⟨va, rfl, hoa, hb1⟩
  clear HCF
  obtain ⟨Aa, ca, hva⟩ := own_slice hoa
  rw [hva] at hoa ⊢
  have HOA := Lib.hid hoa
  clear hoa hva
  go_wp2_with fail
  go_loopg [5, 17] n (fun g v i wr => ∃ (k m : Nat) (acc : List Nat), k ≤ n ∧ g = n - k ∧ i = .int .i64 k ∧ m ≤ 258 * k ∧ Hid (acc.length = m) ∧ wr.ownsRow w1.heap.size 5 1 v m (acc.flatMap bcell) ∧ Hid (FoldTo l k acc) ∧ Below w1.heap.size w1 wr)
  case atStart => exact ⟨0, 0, [], Nat.zero_le _, rfl, rfl, by omega, Lib.hid rfl, own_none, Lib.hid rfl, Below.refl _ _⟩
  case round =>
    obtain ⟨k, m, acc, hk, rfl, rfl, hm, HM, hown, HF, hBB⟩ := hrel
    have hB := hb1.trans (hBB.mono hb1.size)
    have HO := Lib.hid hown
    clear hown
    by_cases hlt : k < n
    · have hn0 : 0 < n := by omega
      obtain ⟨b, off, rfl, hb, hc⟩ := HR.out.at_ Rec.len hn0
      obtain ⟨r, hx⟩ : ∃ r, l[k]? = some r := ⟨_, List.getElem?_eq_getElem (by rw [HL.out]; exact hlt)⟩
      have c0 : wr.cell? ⟨b, off + k, none⟩ = some (.slice r.A r.n r.c) := (hB.cell hb).trans (by have := hc k 0 r _ hx rfl; simpa using this)
      obtain ⟨q1, q2, q3, q4⟩ := HQ.out r (List.mem_of_getElem? hx)
      have HX := Lib.hid (drop_at hx)
      have cW := jwrite_any r.A r.n r.c r.bs wr ((q1.below hB).more hB.size) q2 q3 q4
      clear hc hx q1 q3
      by_cases hbig : 255 < r.n
      · rw [writeE_no (by omega)] at cW
        have HE : (al, ae) = (([], 2) : List Nat × Int) := by rw [← HFE.out]; have := HF.out; unfold FoldTo at this; rw [this, HX.out, foldR, if_pos (by omega)]
        injection HE with e1 e2
        have hna0 : na = 0 := by rw [← HNA.out, e1]; rfl
        subst e2
        subst hna0
        have HW := Lib.hid cW
        clear cW q2 q4 e1
        go_wp2_with fail
        refine HW.out.mono ?_; rintro e w2 ⟨v1, rfl, hown1, hb2⟩
        go_wp2
        go_ret
        exact Ret.mk rfl (hB.trans (hb2.mono hB.size))
      · have hwl := write_len (l := r.bs) (by omega)
        have HE : Hid (FoldTo l (k + 1) (acc ++ (writeE r.bs).1)) := Lib.hid (by have := HF.out; unfold FoldTo at this ⊢; rw [this, HX.out, foldR, if_neg (by omega)])
        generalize writeE r.bs = we at cW hwl HE
        obtain ⟨wl, we⟩ := we
        simp only at hwl
        obtain ⟨hwl1, rfl⟩ := hwl
        have HW := Lib.hid cW
        clear cW q2 q4
        generalize hml : wl.length = ml at hwl1
        have HML := Lib.hid hml
        clear hml
        go_wp2_with fail
        refine HW.out.mono ?_; rintro e w2 ⟨v1, rfl, hown1, hb2⟩
        obtain ⟨A1, c1, hv1⟩ := own_slice hown1
        simp only [HML.out] at hown1 hv1
        rw [hv1] at hown1 ⊢
        have hRd := Rd.of_own hown1
        have how := own_below HO.out hb2
        have hB1 := hB.trans (hb2.mono hB.size)
        clear hown1 hv1 HW
        have hBB1 := hBB.trans (hb2.mono hBB.size)
        go_wp2_with (at_builtin; refine wpList_append_rd _ rfl (.tmp 36) (.tmp 37) 23 rfl w1.heap.size 5 i0 (.int .u8 0) 1 1 Try.underlying23 hi hz0 hz1 hz2 rfl (by omega) _ m _ rfl how w2.heap.size A1 ml c1 (wl.flatMap bcell) rfl hRd (bcell_one wl) (by simp only [maxLen]; omega) (by omega) hBB1.size ?_; intro v2 w3 hown2 hg2 hat2)
        have hB2 := below_grown hBB1 how hg2 hBB1.size
        go_roundg (n - (k + 1))
        case measure => omega
        case rel => exact ⟨k + 1, m + ml, acc ++ wl, by omega, rfl, by go_num, by omega, Lib.hid (by rw [List.length_append, HM.out, HML.out]), by rw [List.flatMap_append]; exact hown2, HE, hB2⟩
    · have HE : (al, ae) = ((acc, 0) : List Nat × Int) := by rw [← HFE.out]; have := HF.out; unfold FoldTo at this; rw [this, List.drop_eq_nil_of_le (by rw [HL.out]; omega), foldR]
      injection HE with e1 e2
      subst e2
      subst e1
      have k1 := run_str_own (P := Try.prog) 23 9 5 Try.underlying23 Try.underlying5 Try.underlying9 (own_below HOA.out hBB) HSM.out
      have k2 := run_str_own (P := Try.prog) 23 9 5 Try.underlying23 Try.underlying5 Try.underlying9 HO.out HSM.out
      generalize strOf al = sx at k1 k2
      go_wp2
      go_ret
      exact Ret.mk (bool_eq (by simp)) hB

theorem byte_cells : Try.prog.cellsOf 5 = 1 := by kernel_rfl
theorem bytes_cells : Try.prog.cellsOf 23 = 1 := by kernel_rfl
theorem byte_parse {H : Type} {enc : TypeId × Value → H} {w : World} {base : Nat} {spare : Nat → Bool} {held : Bool} (n : Nat) (cs : List Value) (y : DataW H × List MemPlace)
    (h : DataW.trod enc Try.prog w base spare held n 5 cs = some y) : ∃ x : Nat, cs = bcell x ∧ x < 256 := by
  obtain ⟨z, rfl, _, wz⟩ := DataW.trod_int Try.underlying5 h
  obtain ⟨h0, h1⟩ := u8_bounds wz
  exact ⟨z.toNat, by simp [bcell]; omega, by omega⟩
theorem rec_parse {H : Type} {enc : TypeId × Value → H} {w : World} {base : Nat} {spare : Nat → Bool} {held : Bool} (n : Nat) (cs : List Value) (y : DataW H × List MemPlace)
    (h : DataW.trod enc Try.prog w base spare held n 23 cs = some y) : ∃ x : Rec, cs = x.cells ∧ x.ok w := by
  obtain ⟨A, m, cap, l, hcs, hl, hnc, hcm, _, hrd, hQ, _⟩ := open_list bcell (fun x => x < 256) Try.underlying23 byte_cells bcell_len (by omega) byte_parse h
  unfold maxLen at hcm
  exact ⟨⟨A, m, cap, l⟩, hcs, hrd, hl, by simp only; omega, hQ⟩

set_option maxRecDepth 100000 in
theorem folds_lifted (os : Os) (started : os.Started) (H : Type) (enc : TypeId × Value → H) (F : Stop.Interp) :
    ReturnsInHanded {} Try.checked os 6 .any ((Rows.OpenSpec.upto Rows.journalFoldsSpec).pre6 enc Try.prog Try.f6 Rows.journalFoldsUptoRow.domain false)
      (((Rows.OpenSpec.upto Rows.journalFoldsSpec).at F).post enc Try.prog Try.f6 false true false false) := by
  refine returnsInHanded_of_cond (C := Try.checked) (s := Rows.OpenSpec.upto Rows.journalFoldsSpec) (k := Rows.uptoSmall) rfl own started (by kernel_rfl) Try.func6
    (OpenSpec.witness (enc := enc) (C := Try.checked) (s := Rows.OpenSpec.upto Rows.journalFoldsSpec) (k := Rows.uptoSmall) rfl false ⟨#[], #[.slice none 0 0], []⟩ 8 (by kernel_rfl) (by kernel_rfl) (by kernel_rfl)
      (x := ([.nil], [], [])) (by kernel_rfl) rfl (by kernel_rfl)) ?_
  intro W base args ds gs before hval0 hW hcnd hk _
  have hval : ∀ (j : Nat) t v, Try.f6.params[j]? = some t → args[j]? = some v → Value.okWide Try.prog W .any base t v := hval0
  have hW0 := hW
  obtain ⟨p, q, hA0, hV, _, _, _⟩ := hW
  have hA : DataW.TrodAll enc Try.prog W 0 (fun _ => true) true Try.f6.params.toList args.toList ds p := hA0
  rw [Try.params6] at hA hval
  obtain ⟨v0, vs0, d0, ds0, p0, q0, hargs, rfl, rfl, h0, r0⟩ := trodAll_cons hA
  obtain ⟨rfl, rfl, rfl⟩ := trodAll_nil r0
  obtain rfl : args = #[v0] := by cases args; simp_all
  obtain ⟨fu, hf⟩ := h0
  obtain ⟨A, n, cap, l, hcs, hl, hnc, hcm, _, hrd, hQ, hd⟩ := open_list Rec.cells (fun r => r.ok W) Try.underlying38 bytes_cells Rec.len (by omega) rec_parse hf
  obtain rfl := slice_of hcs (okWide_slice Try.underlying38 (hval 0 _ v0 rfl rfl))
  have hn := bulk_slice hk (by simp) hd
  refine (folds_walk A n cap l W hrd hl hn hQ).mono fun e W' ⟨he, hg⟩ => ⟨_, he, ?_⟩
  exact law_post laidOut Try.underlying4 rfl rfl (by kernel_rfl) (fun xs hx => by
    match xs, hx with
    | [_], _ => rfl) hW0 hg

theorem folds_over : Rows.journalFoldsUptoRow.holds Try.pinned (Rows.OpenSpec.upto Rows.journalFoldsSpec) :=
  OpenClaim.holds_of_cond 6 Try.f6 rfl rfl rfl rfl rfl rfl rfl ⟨rfl, rfl, rfl, rfl, rfl⟩ rfl rfl rfl rfl rfl (by kernel_rfl) Try.func6 (by kernel_rfl)
    (of_decide_eq_true (by kernel_rfl)) (by unfold Func.isWrapper; first | (rw [if_pos (by decide +kernel)]; kernel_rfl) | (rw [if_neg (by decide +kernel)]; exact ⟨rfl, rfl⟩))
    (fun os started H enc _ F => folds_lifted os started H enc F)
end Jrn
theorem journalFolds_holds : Rows.JournalFoldsUptoSaid := Jrn.folds_over
end Go.Proofs.Ytljdfkejhgaciab
