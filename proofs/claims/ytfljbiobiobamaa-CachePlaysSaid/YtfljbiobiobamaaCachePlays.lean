/-
  CachePlays: cache.Play answers as the reference does, for every size and every list of operations. Conditions: none.
-/
import Derived.Test.YtfljbiobiobamaaCaS
import Derived.Test.YtfljbiobiobamaaParse
import Derived.Test.YtfljbiobiobamaaEq
import Derived.Test.YtfljbiobiobamaaRowG
import Derived.Test.YtfljbiobiobamaaReach
namespace Go.Proofs.Ytfljbiobiobamaa
open Go.ChangeShapes Go.WideShapes Go.ChangeAt Go.RowKit
set_option linter.unusedVariables false
namespace Ca

/-- an answer: what was read, the two counts, the store, the error -/
def URet (w : World) (rd : List Int) (f s : Nat) (st : List Int) (er : Int) (en : Ending) (w' : World) : Prop :=
  ∃ A c, en = .returned (.tuple #[.agg (cdc (.slice A rd.length c) f s st).toArray, .int .i64 er]) ∧ Below w.heap.size w w' ∧ Rd w' w'.heap.size 1 A rd.length (rd.flatMap icell)
theorem BadRet.u {w w' : World} {en : Ending} (h : BadRet w en w') : URet w [] 0 0 (List.replicate 16 0) 2 en w' := by
  obtain ⟨rfl, hb⟩ := h
  exact ⟨none, 0, rfl, hb, rfl, fun h0 => absurd h0 (Nat.lt_irrefl _)⟩
theorem CRet.u {w w' : World} {cf : Cs} {en : Ending} (h : CRet w cf en w') : URet w cf.rd cf.f cf.s cf.st 0 en w' := by
  obtain ⟨A, c, rfl, H⟩ := h
  exact ⟨A, c, rfl, H.below, H.rd 0 rfl⟩
theorem plays_st {size : Nat} (h1 : 1 ≤ size) (h16 : size ≤ 16) {c c' : Cs} {os : List O} (hp : Plays size c os c') : ∀ b, Ok size c → Bd c b → (∀ o ∈ os, Good o) → Ok size c' ∧ Bd c' (b + os.length) := by
  induction hp with
  | nil => intro b hc hb _; exact ⟨hc, hb⟩
  | cons h r ih =>
    intro b hc hb hg
    have := ih (b + 1) (way_ok hc (hg _ (by simp)) h1 h) (way_bd hc h16 hb h) (fun x hx => hg x (by simp [hx]))
    rw [Nat.add_right_comm] at this
    exact this

set_option maxRecDepth 100000 in
set_option maxHeartbeats 3200000 in
theorem cachePlays_walk (sz : Int) (Ad : Option Addr) (n c : Nat) (rd : List Int) (f s : Nat) (st : List Int) (er : Int) (w : World) (hst : st.length = 16) (hrl : rd.length ≤ 5864062014806)
    (h1 : Calls Try.prog 7 #[.int .i64 sz, .slice Ad n c] w (URet w rd f s st er))
    (h2 : ∀ W, Below w.heap.size w W → Calls Try.prog 8 #[.int .i64 sz, .slice Ad n c] W (URet W rd f s st er)) :
    Calls Try.prog 3 #[.int .i64 sz, .slice Ad n c] w (Ret w (.bool true)) := by
  have c1 := Lib.hid h1
  have c2 := Lib.hid h2
  have HST := Lib.hid hst
  have HRL := Lib.hid hrl
  have hsz : ∀ A c, Hid ((Try.prog.info? 26).map (·.size) = some (cdc (.slice A rd.length c) f s st).toArray.size) := fun A c => Lib.hid (by rw [List.size_toArray, cdc_len hst]; exact info64)
  have hzz : ∀ A c, Hid ((cdc (.slice A rd.length c) f s st).toArray.size = Z0.toArray.size) := fun A c => Lib.hid (by rw [List.size_toArray, List.size_toArray, cdc_len hst]; rfl)
  have HSZ := Lib.hid hsz
  have HZZ := Lib.hid hzz
  clear h1 h2 hst hrl hsz hzz
  go_enter Try.func3, Try.ntmps3
  go_wp2_with fail
  refine c1.out.mono ?_; rintro en w1 ⟨A1, q1, rfl, hb1, r1⟩
  have R1 := Lib.hid (r1.later (boxed_below w1 (.cells Z0.toArray 26) (cdc (.slice A1 rd.length q1) f s st).toArray))
  have F4 : Hid (Blk (w1.alloc (.cells Z0.toArray 26)) w1.heap.size 26 Z0) := Lib.hid (Blk.new w1 _ _)
  have S1 : Hid (Sep w ((w1.alloc (.cells #[.slice none 0 0, .int .i64 0, .int .i64 0, .int .i64 0, .int .i64 0, .int .i64 0, .int .i64 0, .int .i64 0, .int .i64 0, .int .i64 0, .int .i64 0, .int .i64 0, .int .i64 0, .int .i64 0, .int .i64 0, .int .i64 0, .int .i64 0, .int .i64 0, .int .i64 0] 26)).setRow w1.heap.size (cdc (.slice A1 rd.length q1) f s st).toArray) [.cells w1.heap.size 26 (cdc (.slice A1 rd.length q1) f s st)]) := Lib.hid (((Sep.nil_ w).later hb1).boxed 26 Z0 (cdc (.slice A1 rd.length q1) f s st))
  have R1' : Hid (Rd ((w1.alloc (.cells #[.slice none 0 0, .int .i64 0, .int .i64 0, .int .i64 0, .int .i64 0, .int .i64 0, .int .i64 0, .int .i64 0, .int .i64 0, .int .i64 0, .int .i64 0, .int .i64 0, .int .i64 0, .int .i64 0, .int .i64 0, .int .i64 0, .int .i64 0, .int .i64 0, .int .i64 0] 26)).setRow w1.heap.size (cdc (.slice A1 rd.length q1) f s st).toArray) ((w1.alloc (.cells #[.slice none 0 0, .int .i64 0, .int .i64 0, .int .i64 0, .int .i64 0, .int .i64 0, .int .i64 0, .int .i64 0, .int .i64 0, .int .i64 0, .int .i64 0, .int .i64 0, .int .i64 0, .int .i64 0, .int .i64 0, .int .i64 0, .int .i64 0, .int .i64 0, .int .i64 0] 26)).setRow w1.heap.size (cdc (.slice A1 rd.length q1) f s st).toArray).heap.size 1 A1 rd.length (rd.flatMap icell)) := Lib.hid R1.out
  clear r1 R1 c1 hb1
  go_upto_region 2 with (refine wpList_store_row rfl 26 (.tmp 5) (.tmp 13) rfl w1.heap.size (cdc (.slice A1 rd.length q1) f s st).toArray rfl rfl 26 Z0.toArray F4.out (HSZ.out _ _).out (HZZ.out _ _).out.symm cdc_one ?_)
  generalize (w1.alloc (.cells #[.slice none 0 0, .int .i64 0, .int .i64 0, .int .i64 0, .int .i64 0, .int .i64 0, .int .i64 0, .int .i64 0, .int .i64 0, .int .i64 0, .int .i64 0, .int .i64 0, .int .i64 0, .int .i64 0, .int .i64 0, .int .i64 0, .int .i64 0, .int .i64 0, .int .i64 0] 26)).setRow w1.heap.size (cdc (.slice A1 rd.length q1) f s st).toArray = wa at S1 R1' ⊢
  clear F4
  generalize w1.heap.size = g5 at S1 ⊢
  go_wp2_with fail
  refine (c2.out wa S1.out.below).mono ?_; rintro en w2 ⟨A2, q2, rfl, hb2, r2⟩
  have R2 := Lib.hid (r2.later (boxed_below w2 (.cells Z0.toArray 26) (cdc (.slice A2 rd.length q2) f s st).toArray))
  have R1b := Lib.hid ((R1'.out.later hb2).later (boxed_below w2 (.cells Z0.toArray 26) (cdc (.slice A2 rd.length q2) f s st).toArray))
  have F4 : Hid (Blk (w2.alloc (.cells Z0.toArray 26)) w2.heap.size 26 Z0) := Lib.hid (Blk.new w2 _ _)
  have S2 : Hid (Sep w ((w2.alloc (.cells #[.slice none 0 0, .int .i64 0, .int .i64 0, .int .i64 0, .int .i64 0, .int .i64 0, .int .i64 0, .int .i64 0, .int .i64 0, .int .i64 0, .int .i64 0, .int .i64 0, .int .i64 0, .int .i64 0, .int .i64 0, .int .i64 0, .int .i64 0, .int .i64 0, .int .i64 0] 26)).setRow w2.heap.size (cdc (.slice A2 rd.length q2) f s st).toArray) [.cells g5 26 (cdc (.slice A1 rd.length q1) f s st), .cells w2.heap.size 26 (cdc (.slice A2 rd.length q2) f s st)]) := Lib.hid ((S1.out.later hb2).boxed 26 Z0 (cdc (.slice A2 rd.length q2) f s st))
  have R2' : Hid (Rd ((w2.alloc (.cells #[.slice none 0 0, .int .i64 0, .int .i64 0, .int .i64 0, .int .i64 0, .int .i64 0, .int .i64 0, .int .i64 0, .int .i64 0, .int .i64 0, .int .i64 0, .int .i64 0, .int .i64 0, .int .i64 0, .int .i64 0, .int .i64 0, .int .i64 0, .int .i64 0, .int .i64 0] 26)).setRow w2.heap.size (cdc (.slice A2 rd.length q2) f s st).toArray) ((w2.alloc (.cells #[.slice none 0 0, .int .i64 0, .int .i64 0, .int .i64 0, .int .i64 0, .int .i64 0, .int .i64 0, .int .i64 0, .int .i64 0, .int .i64 0, .int .i64 0, .int .i64 0, .int .i64 0, .int .i64 0, .int .i64 0, .int .i64 0, .int .i64 0, .int .i64 0, .int .i64 0] 26)).setRow w2.heap.size (cdc (.slice A2 rd.length q2) f s st).toArray).heap.size 1 A2 rd.length (rd.flatMap icell)) := Lib.hid R2.out
  have R1c : Hid (Rd ((w2.alloc (.cells #[.slice none 0 0, .int .i64 0, .int .i64 0, .int .i64 0, .int .i64 0, .int .i64 0, .int .i64 0, .int .i64 0, .int .i64 0, .int .i64 0, .int .i64 0, .int .i64 0, .int .i64 0, .int .i64 0, .int .i64 0, .int .i64 0, .int .i64 0, .int .i64 0, .int .i64 0] 26)).setRow w2.heap.size (cdc (.slice A2 rd.length q2) f s st).toArray) ((w2.alloc (.cells #[.slice none 0 0, .int .i64 0, .int .i64 0, .int .i64 0, .int .i64 0, .int .i64 0, .int .i64 0, .int .i64 0, .int .i64 0, .int .i64 0, .int .i64 0, .int .i64 0, .int .i64 0, .int .i64 0, .int .i64 0, .int .i64 0, .int .i64 0, .int .i64 0, .int .i64 0] 26)).setRow w2.heap.size (cdc (.slice A2 rd.length q2) f s st).toArray).heap.size 1 A1 rd.length (rd.flatMap icell)) := Lib.hid R1b.out
  clear r2 R2 c2 hb2 R1b R1' S1
  go_upto_region 3 with (refine wpList_store_row rfl 26 (.tmp 7) (.tmp 19) rfl w2.heap.size (cdc (.slice A2 rd.length q2) f s st).toArray rfl rfl 26 Z0.toArray F4.out (HSZ.out _ _).out (HZZ.out _ _).out.symm cdc_one ?_)
  generalize (w2.alloc (.cells #[.slice none 0 0, .int .i64 0, .int .i64 0, .int .i64 0, .int .i64 0, .int .i64 0, .int .i64 0, .int .i64 0, .int .i64 0, .int .i64 0, .int .i64 0, .int .i64 0, .int .i64 0, .int .i64 0, .int .i64 0, .int .i64 0, .int .i64 0, .int .i64 0, .int .i64 0] 26)).setRow w2.heap.size (cdc (.slice A2 rd.length q2) f s st).toArray = wb at S2 R1c R2' ⊢
  clear F4
  generalize w2.heap.size = g7 at S2 ⊢
  have c3 := Lib.hid (same_any A1 A2 rd.length q1 q2 f s st rd wb R1c.out R2'.out rfl HRL.out HST.out)
  go_wp2_with (first
    | refine wpList_load_row_g rfl 26 (.tmp 5) rfl g5 rfl 26 (cdc (.slice A1 rd.length q1) f s st).toArray (0, 0) _ (S2.out.blk 0 rfl) Try.underlying26 rfl (HSZ.out _ _).out ?_
    | refine wpList_load_row_g rfl 26 (.tmp 7) rfl g7 rfl 26 (cdc (.slice A2 rd.length q2) f s st).toArray (0, 0) _ (S2.out.blk 1 rfl) Try.underlying26 rfl (HSZ.out _ _).out ?_)
  refine c3.out.mono ?_; rintro en w3 ⟨rfl, hb3⟩
  have S3 := S2.out.later hb3
  go_wp2
  go_ret
  exact Ret.mk rfl S3.below

theorem op_cells : Try.prog.cellsOf 59 = 3 := by kernel_rfl
theorem op_bytes : Try.prog.bytesOf 59 = 24 := by kernel_rfl
theorem op_parse {H : Type} {enc : TypeId × Value → H} {w : World} {base : Nat} {spare : Nat → Bool} {held : Bool} (n : Nat) (cs : List Value) (y : DataW H × List MemPlace)
    (h : DataW.trod enc Try.prog w base spare held n 59 cs = some y) : ∃ x : O, cs = x.cells ∧ True := by
  obtain ⟨hl, m, hf⟩ := parse_fields Try.underlying59 (by kernel_rfl) (by kernel_rfl) h
  obtain ⟨v0, z0, e0, t0⟩ := hf 0 _ rfl
  obtain ⟨v1, z1, e1, t1⟩ := hf 1 _ rfl
  obtain ⟨v2, z2, e2, t2⟩ := hf 2 _ rfl
  obtain ⟨a, rfl, _⟩ := parse_int Try.underlying3 t0
  obtain ⟨b, rfl, _⟩ := parse_int Try.underlying3 t1
  obtain ⟨d, rfl, _⟩ := parse_int Try.underlying3 t2
  match cs, hl with
  | [c0, c1, c2], _ =>
    simp at e0 e1 e2
    subst e0 e1 e2
    exact ⟨⟨a, b, d⟩, rfl, trivial⟩

set_option maxRecDepth 100000 in
set_option maxHeartbeats 400000 in
theorem cachePlays_lifted (os : Os) (started : os.Started) (H : Type) (enc : TypeId × Value → H) :
    ReturnsInHanded {} Try.checked os 3 .any (Rows.cachePlaysSpec.pre6 enc Try.prog Try.f3 Rows.cachePlaysRow.domain false)
      (Rows.cachePlaysSpec.post enc Try.prog Try.f3 false true false false) := by
  refine returnsInHanded_of_change_sized (C := Try.checked) own started (by kernel_rfl) Try.func3
    (ChangeSpec.witness6 (enc := enc) (C := Try.checked) false ⟨#[], #[.int .i64 0, .slice none 0 0], []⟩ 8 (by kernel_rfl) (by kernel_rfl) (by kernel_rfl) (by kernel_rfl)) ?_
  intro W base args ds gs before hval0 hW hcnd hsz0 _
  have hval : ∀ (j : Nat) t v, Try.f3.params[j]? = some t → args[j]? = some v → Value.okWide Try.prog W .any base t v := hval0
  have hsz : (DataW.weightsEach Try.prog (Try.f3.params.toList ++ Rows.cachePlaysSpec.plain.varTypes Try.prog) (ds ++ gs)).all (· ≤ reachBytes) = true := hsz0
  have hW0 := hW
  obtain ⟨p, q, hA0, hV, _, _, _⟩ := hW
  have hA : DataW.TrodAll enc Try.prog W 0 (fun _ => true) true Try.f3.params.toList args.toList ds p := hA0
  rw [Try.params3] at hA hval hsz
  obtain ⟨v0, vs0, d0, ds0, p0, q0, hargs, rfl, rfl, h0, r0⟩ := trodAll_cons hA
  obtain ⟨v1, vs1, d1, ds1, p1, q1, rfl, rfl, rfl, h1, r1⟩ := trodAll_cons r0
  obtain ⟨rfl, rfl, rfl⟩ := trodAll_nil r1
  obtain rfl : args = #[v0, v1] := by cases args; simp_all
  obtain ⟨S, rfl, rfl, rfl, _⟩ := open_int Try.underlying3 (hval 0 _ v0 rfl rfl) h0
  obtain ⟨fu1, hf1⟩ := h1
  obtain ⟨A, n, cap, l, hcs, hl, hnc, hcm, _, hrd, _, hd⟩ := open_list O.cells (fun _ => True) Try.underlying22 op_cells O.len (by omega) op_parse hf1
  obtain rfl := slice_of hcs (okWide_slice Try.underlying22 (hval 1 _ v1 rfl rfl))
  have hn := reach_of hsz (j := 1) rfl rfl Try.underlying22 op_bytes hd
  have hn2 : n ≤ 5864062014805 := by omega
  have hwalk : Calls Try.prog 3 #[.int .i64 S, .slice A n cap] W (Ret W (.bool true)) := by
    by_cases hbad : S < 1 ∨ S > 16 ∨ ∃ o ∈ l, ¬ Good o
    · exact cachePlays_walk S A n cap [] 0 0 (List.replicate 16 0) 2 W rfl (by simp) ((play_bad S A n cap l W hrd hl (by omega) hbad).mono fun _ _ h => h.u)
        (fun W' hW' => (tplay_bad S A n cap l W' (hrd.later hW') hl (by omega) hbad).mono fun _ _ h => h.u)
    · have hS1 : ¬ S < 1 := fun h => hbad (.inl h)
      have hS2 : ¬ S > 16 := fun h => hbad (.inr (.inl h))
      have hg : ∀ o ∈ l, Good o := fun o ho => Classical.byContradiction fun h => hbad (.inr (.inr ⟨o, ho, h⟩))
      obtain ⟨S', rfl⟩ := Int.eq_ofNat_of_zero_le (show 0 ≤ S by omega)
      have k1 : 1 ≤ S' := by omega
      have k2 : S' ≤ 16 := by omega
      obtain ⟨cf, hp⟩ := plays_ex k1 l C0 (ok0 S') hg
      obtain ⟨o1, o2, _⟩ := plays_st k1 k2 hp 0 (ok0 S') bd0 hg
      exact cachePlays_walk S' A n cap cf.rd cf.f cf.s cf.st 0 W o1.st (by omega) ((play_ok S' A n cap l cf W hrd hl hn2 k1 k2 hg hp).mono fun _ _ h => h.u)
        (fun W' hW' => (tplay_ok S' A n cap l cf W' (hrd.later hW') hl hn2 k1 k2 hg hp).mono fun _ _ h => h.u)
  refine hwalk.mono fun e W' ⟨he, hg⟩ => ⟨_, he, ?_⟩
  exact law_post laidOut Try.underlying4 rfl rfl (by kernel_rfl) (fun xs hx => by
    match xs, hx with
    | [_, _], _ => rfl) hW0 hg
theorem cachePlays_over : Rows.cachePlaysRow.holds Try.pinned (OpenSpec.ofChange Rows.cachePlaysSpec) :=
  OpenClaim.holds_of_wide 3 Try.f3 rfl rfl rfl rfl rfl rfl rfl ⟨rfl, rfl, rfl, rfl, rfl⟩ rfl rfl rfl rfl rfl (by kernel_rfl) Try.func3 (by kernel_rfl)
    (of_decide_eq_true (by kernel_rfl)) (by unfold Func.isWrapper; first | (rw [if_pos (by decide +kernel)]; kernel_rfl) | (rw [if_neg (by decide +kernel)]; exact ⟨rfl, rfl⟩))
    (fun os started H enc _ => cachePlays_lifted os started H enc)
theorem cachePlays_holds : Rows.CachePlaysSaid := cachePlays_over
end Ca
theorem cachePlays_holds : Rows.CachePlaysSaid := Ca.cachePlays_holds
end Go.Proofs.Ytfljbiobiobamaa
