/-
  JournalTells: journal.Write and Read answer as the reference does, for every record and every bytes. Conditions: what is read is of bulk at most 1048576 (the second form): longer bytes may hold more records than a slice of slices can bear.
-/
import Derived.Test.YtljdfkejhgaciabJrnS
import Derived.Test.YtljdfkejhgaciabParse
import Derived.Test.YtljdfkejhgaciabBulk
namespace Go.Proofs.Ytljdfkejhgaciab
open Go.ChangeShapes Go.WideShapes Go.ChangeAt Go.RowKit
namespace Jrn
open Crc

theorem run_str_value {w : World} {base n : Nat} {v : Value} {l : List Nat} (hr : w.ownsRow base 5 1 v n (l.flatMap bcell)) (hb : ∀ x ∈ l, x < 256) : (convert 23 9 v).run Try.prog w = .ok (.string (strOf l)) w :=
  run_str_own (P := Try.prog) 23 9 5 Try.underlying23 Try.underlying5 Try.underlying9 hr hb

set_option maxHeartbeats 1600000 in
theorem same_any (A A' : Option Addr) (n c c' base base' : Nat) (vals vals' : List Value) (recs : List (List Nat)) (w : World) (hr : Rd w w.heap.size 1 A n vals) (hr' : Rd w w.heap.size 1 A' n vals') (hl : recs.length = n) (hn : n ≤ 9223372036854775807)
    (hh : Held w base vals recs) (hh' : Held w base' vals' recs) (hb : ∀ r ∈ recs, ∀ x ∈ r, x < 256) :
    Calls Try.prog 30 #[.slice A n c, .slice A' n c'] w (Ret w (.bool true)) := by
  have HR := Lib.hid hr
  have HR' := Lib.hid hr'
  have HL := Lib.hid hl
  have HH := Lib.hid hh
  have HH' := Lib.hid hh'
  have HB := Lib.hid hb
  clear hr hr' hl hh hh' hb
  go_enter Try.func30, Try.ntmps30
  go_wp2
  go_loopg [13] n (fun g i wr => ∃ k : Nat, k ≤ n ∧ g = n - k ∧ i = .int .i64 k ∧ Below w.heap.size w wr)
  case atStart => exact ⟨0, Nat.zero_le _, rfl, rfl, Below.refl _ _⟩
  case round =>
    obtain ⟨k, hk, rfl, rfl, hB⟩ := hrel
    by_cases hlt : k < n
    · obtain ⟨b, off, rfl, hbb, hc⟩ := HR.out.2 (show 0 < n by omega)
      obtain ⟨b', off', rfl, hbb', hc'⟩ := HR'.out.2 (show 0 < n by omega)
      have l1 : vals.length = n := by rw [HH.out.1, HL.out]
      have l2 : vals'.length = n := by rw [HH'.out.1, HL.out]
      obtain ⟨v, hv⟩ : ∃ v, vals[k]? = some v := ⟨_, List.getElem?_eq_getElem (by omega)⟩
      obtain ⟨v', hv'⟩ : ∃ v, vals'[k]? = some v := ⟨_, List.getElem?_eq_getElem (by omega)⟩
      obtain ⟨r, hx⟩ : ∃ r, recs[k]? = some r := ⟨_, List.getElem?_eq_getElem (by rw [HL.out]; exact hlt)⟩
      have o1 := HH.out.2 k v r hv hx
      have o2 := HH'.out.2 k v' r hv' hx
      have hr8 := HB.out r (List.mem_of_getElem? hx)
      obtain ⟨A1, c1, rfl⟩ := own_slice o1
      obtain ⟨A2, c2, rfl⟩ := own_slice o2
      have d1 : ∀ y : LaterOf wr, y.w.cell? ⟨b, off + k, none⟩ = some (.slice A1 r.length c1) := fun y => y.cell ((hB.cell hbb).trans (hc k _ hv))
      have d2 : ∀ y : LaterOf wr, y.w.cell? ⟨b', off' + k, none⟩ = some (.slice A2 r.length c2) := fun y => y.cell ((hB.cell hbb').trans (hc' k _ hv'))
      have k1 : ∀ y : LaterOf wr, (convert 23 9 (.slice A1 r.length c1)).run Try.prog y.w = .ok (.string (strOf r)) y.w := fun y => run_str_value (own_below (own_below o1 hB) y.h) hr8
      have k2 : ∀ y : LaterOf wr, (convert 23 9 (.slice A2 r.length c2)).run Try.prog y.w = .ok (.string (strOf r)) y.w := fun y => run_str_value (own_below (own_below o2 hB) y.h) hr8
      have i1 : (k : Int) < (n : Int) := by omega
      have i0 : (0 : Int) ≤ (k : Int) := by omega
      clear o1 o2 hr8 hx hv hv' hc hc' l1 l2
      generalize strOf r = sx at k1 k2
      generalize r.length = rl at d1 d2 k1 k2
      have hbt : (sx.toList == sx.toList) = true := by simp
      go_upto_region 6 with (fail)
      refine wp_region_later (by kernel_rfl) (by kernel_rfl) ?_
      repeat (go_big_quiet_step (fail))
      refine wpQuiet_nil ?_; intro xw hw'; obtain ⟨xq, hw''⟩ := hw'; obtain ⟨xw0, xh⟩ := xq; change xw = xw0 at hw''; subst hw''
      clear k1 k2 d1 d2
      go_wp2
      go_roundg (n - (k + 1))
      case measure => omega
      case rel => exact ⟨k + 1, by omega, rfl, by go_num, hB.trans (xh.mono hB.size)⟩
    · go_wp2
      go_ret
      exact Ret.mk rfl hB

theorem run_small {l : List Nat} (hb : ∀ x ∈ l, x < 256) : ∀ (f a : Nat) (out : List (List Nat)), (∀ r ∈ out, ∀ x ∈ r, x < 256) → ∀ r ∈ (runJ l f a out).1, ∀ x ∈ r, x < 256
  | 0, _, _, h => h
  | f + 1, a, out, h => by
    rw [runJ]
    split
    · exact h
    · rename_i r hr
      refine run_small hb f _ _ (fun r' hr' => ?_)
      rcases List.mem_append.1 hr' with h' | h'
      · exact h r' h'
      · simp at h'
        subst h'
        unfold stepJ at hr
        split at hr
        · injection hr with hr
          subst hr
          exact seg_small hb
        · cases hr

set_option maxHeartbeats 1600000 in
theorem tells_walk (A A' : Option Addr) (n c n' c' : Nat) (l l' : List Nat) (w : World) (hr : Rd w w.heap.size 1 A n (l.flatMap bcell)) (hl : l.length = n) (hn : n ≤ 9223372036854775807) (hb : ∀ x ∈ l, x < 256)
    (hr' : Rd w w.heap.size 1 A' n' (l'.flatMap bcell)) (hl' : l'.length = n') (hn' : n' ≤ 1048576) (hnc' : n' ≤ c') (hcm' : c' ≤ 9223372036854775807) (hb' : ∀ x ∈ l', x < 256) :
    Calls Try.prog 7 #[.slice A n c, .slice A' n' c'] w (Ret w (.bool true)) := by
  have c1 := Lib.hid (write_any A n c l w hr hl hn hb)
  have c2 := Lib.hid (fun w' (hbw : Below w.heap.size w w') => jwrite_any A n c l w' ((hr.below hbw).more hbw.size) hl hn hb)
  have c3 := Lib.hid (fun w' (hbw : Below w.heap.size w w') => read_any A' n' c' l' w' ((hr'.below hbw).more hbw.size) hl' hn' hnc' hcm' hb')
  have c4 := Lib.hid (fun w' (hbw : Below w.heap.size w w') => jread_any A' n' c' l' w' ((hr'.below hbw).more hbw.size) hl' hn' hnc' hcm' hb')
  have HWS := Lib.hid (write_small hb)
  have HRS := Lib.hid (run_small hb' (l'.length + 1) 0 [] (by simp))
  have hrl : (readE l').1.length ≤ 9223372036854775807 := by
    have : ∀ (f a : Nat) (out : List (List Nat)), (runJ l' f a out).1.length ≤ out.length + f := by
      intro f
      induction f with
      | zero => intro a out; simp [runJ]
      | succ f ih =>
        intro a out
        rw [runJ]
        split
        · simp only; omega
        · rename_i r _
          have := ih (a + r.length + 3) (out ++ [r])
          simp at this
          omega
    have := this (l'.length + 1) 0 []
    unfold readE
    simp at this
    omega
  change Hid (∀ r ∈ (readE l').1, ∀ x ∈ r, x < 256) at HRS
  clear hr hl hb hr' hl' hb'
  generalize readE l' = re at c3 c4 HRS hrl
  generalize writeE l = we at c1 c2 HWS
  obtain ⟨rl, rz⟩ := re
  obtain ⟨wl, wz⟩ := we
  simp only at hrl
  go_enter Try.func7, Try.ntmps7
  go_wp2_with fail
  refine c1.out.mono ?_; rintro e w1 ⟨v1, rfl, ho1, hb1⟩
  have HO1 := Lib.hid ho1
  clear ho1
  go_wp2_with fail
  refine (c2.out _ hb1).mono ?_; rintro e w2 ⟨v2, rfl, ho2, hb2⟩
  have HO2 := Lib.hid ho2
  have hb12 := hb1.trans (hb2.mono hb1.size)
  clear ho2
  go_wp2_with fail
  refine (c3.out _ hb12).mono ?_; rintro e w3 ⟨v3, vals3, rfl, ho3, hh3, hb3⟩
  have HH3 := Lib.hid hh3
  have hb13 := hb12.trans (hb3.mono hb12.size)
  clear hh3
  obtain ⟨A3, c3', hv3⟩ := own_slice ho3
  rw [hv3] at ho3 ⊢
  have HO3 := Lib.hid ho3
  clear ho3 hv3
  go_wp2_with fail
  refine (c4.out _ hb13).mono ?_; rintro e w4 ⟨v4, vals4, rfl, ho4, hh4, hb4⟩
  have HH4 := Lib.hid hh4
  have hb14 := hb13.trans (hb4.mono hb13.size)
  clear hh4
  obtain ⟨A4, c4', hv4⟩ := own_slice ho4
  rw [hv4] at ho4 ⊢
  have HO4 := Lib.hid ho4
  clear ho4 hv4
  have b34 := hb4
  have b24 := hb3.trans (b34.mono hb3.size)
  have b14 := hb2.trans (b24.mono hb2.size)
  have k1 := run_str_value (own_below HO1.out b14) HWS.out
  have k2 := run_str_value (own_below HO2.out b24) HWS.out
  have cS := same_any A3 A4 rl.length c3' c4' _ _ vals3 vals4 rl w4 ((Rd.of_own (own_below HO3.out b34))) (Rd.of_own HO4.out) rfl hrl (HH3.out.below b34) HH4.out HRS.out
  have HCS := Lib.hid cS
  generalize strOf wl = sx at k1 k2
  have hbt : (sx.toList == sx.toList) = true := by simp
  generalize hrn : rl.length = rn at HCS
  clear hb1 hb2 hb3 hb4 hb12 hb13 b34 b24 b14 cS c1 c2 c3 c4 hrl hrn
  go_wp2_with fail
  refine HCS.out.mono ?_; rintro e w5 ⟨rfl, hb5⟩
  go_wp2
  go_ret
  exact Ret.mk (bool_eq (by simp)) (hb14.trans (hb5.mono hb14.size))

theorem byte_cells' : Try.prog.cellsOf 5 = 1 := by kernel_rfl
theorem byte_parse' {H : Type} {enc : TypeId × Value → H} {w : World} {base : Nat} {spare : Nat → Bool} {held : Bool} (n : Nat) (cs : List Value) (y : DataW H × List MemPlace)
    (h : DataW.trod enc Try.prog w base spare held n 5 cs = some y) : ∃ x : Nat, cs = bcell x ∧ x < 256 := by
  obtain ⟨z, rfl, _, wz⟩ := DataW.trod_int Try.underlying5 h
  obtain ⟨h0, h1⟩ := u8_bounds wz
  exact ⟨z.toNat, by simp [bcell]; omega, by omega⟩

set_option maxRecDepth 100000 in
theorem tells_lifted (os : Os) (started : os.Started) (H : Type) (enc : TypeId × Value → H) (F : Stop.Interp) :
    ReturnsInHanded {} Try.checked os 7 .any ((Rows.OpenSpec.upto Rows.journalTellsSpec).pre6 enc Try.prog Try.f7 Rows.journalTellsUptoRow.domain false)
      (((Rows.OpenSpec.upto Rows.journalTellsSpec).at F).post enc Try.prog Try.f7 false true false false) := by
  refine returnsInHanded_of_cond (C := Try.checked) (s := Rows.OpenSpec.upto Rows.journalTellsSpec) (k := Rows.uptoSmall) rfl own started (by kernel_rfl) Try.func7
    (OpenSpec.witness (enc := enc) (C := Try.checked) (s := Rows.OpenSpec.upto Rows.journalTellsSpec) (k := Rows.uptoSmall) rfl false ⟨#[], #[.slice none 0 0, .slice none 0 0], []⟩ 8 (by kernel_rfl) (by kernel_rfl) (by kernel_rfl)
      (x := ([.nil, .nil], [], [])) (by kernel_rfl) rfl (by kernel_rfl)) ?_
  intro W base args ds gs before hval0 hW hcnd hk _
  have hval : ∀ (j : Nat) t v, Try.f7.params[j]? = some t → args[j]? = some v → Value.okWide Try.prog W .any base t v := hval0
  have hW0 := hW
  obtain ⟨p, q, hA0, hV, _, _, _⟩ := hW
  have hA : DataW.TrodAll enc Try.prog W 0 (fun _ => true) true Try.f7.params.toList args.toList ds p := hA0
  rw [Try.params7] at hA hval
  obtain ⟨v0, vs0, d0, ds0, p0, q0, hargs, rfl, rfl, h0, r0⟩ := trodAll_cons hA
  obtain ⟨v1, vs1, d1, ds1, p1, q1, rfl, rfl, rfl, h1, r1⟩ := trodAll_cons r0
  obtain ⟨rfl, rfl, rfl⟩ := trodAll_nil r1
  obtain rfl : args = #[v0, v1] := by cases args; simp_all
  obtain ⟨fu, hf⟩ := h0
  obtain ⟨A, n, cap, l, hcs, hl, hnc, hcm, _, hrd, hQ, hd⟩ := open_list bcell (fun x => x < 256) Try.underlying23 byte_cells' bcell_len (by omega) byte_parse' hf
  obtain rfl := slice_of hcs (okWide_slice Try.underlying23 (hval 0 _ v0 rfl rfl))
  obtain ⟨fu', hf'⟩ := h1
  obtain ⟨A', n', cap', l', hcs', hl', hnc', hcm', _, hrd', hQ', hd'⟩ := open_list bcell (fun x => x < 256) Try.underlying23 byte_cells' bcell_len (by omega) byte_parse' hf'
  obtain rfl := slice_of hcs' (okWide_slice Try.underlying23 (hval 1 _ v1 rfl rfl))
  have hn := bulk_slice hk (by simp) hd'
  unfold maxLen at hcm hcm'
  refine (tells_walk A A' n cap n' cap' l l' W hrd hl (by omega) hQ hrd' hl' hn hnc' (by omega) hQ').mono fun e W' ⟨he, hg⟩ => ⟨_, he, ?_⟩
  exact law_post laidOut Try.underlying4 rfl rfl (by kernel_rfl) (fun xs hx => by
    match xs, hx with
    | [_, _], _ => rfl) hW0 hg

theorem tells_over : Rows.journalTellsUptoRow.holds Try.pinned (Rows.OpenSpec.upto Rows.journalTellsSpec) :=
  OpenClaim.holds_of_cond 7 Try.f7 rfl rfl rfl rfl rfl rfl rfl ⟨rfl, rfl, rfl, rfl, rfl⟩ rfl rfl rfl rfl rfl (by kernel_rfl) Try.func7 (by kernel_rfl)
    (of_decide_eq_true (by kernel_rfl)) (by unfold Func.isWrapper; first | (rw [if_pos (by decide +kernel)]; kernel_rfl) | (rw [if_neg (by decide +kernel)]; exact ⟨rfl, rfl⟩))
    (fun os started H enc _ F => tells_lifted os started H enc F)
end Jrn
theorem journalTells_holds : Rows.JournalTellsUptoSaid := Jrn.tells_over
end Go.Proofs.Ytljdfkejhgaciab
