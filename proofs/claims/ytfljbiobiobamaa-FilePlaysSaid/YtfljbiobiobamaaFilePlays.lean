/-
  FilePlays: file.Play answers as the reference does, for every list of operations. Conditions: none.
-/
import Derived.Test.YtfljbiobiobamaaFlR
import Derived.Test.YtfljbiobiobamaaReach2
namespace Go.Proofs.Ytfljbiobiobamaa
open Go.ChangeShapes Go.WideShapes Go.ChangeAt Go.RowKit
set_option linter.unusedVariables false
namespace Fl

theorem plays_bytes {eK eR : Int} {s sf : Sf} {ops : List O} {es : List An} (h : Plays eK eR s ops es sf) : s.Ok → (∀ o ∈ ops, ∀ x ∈ o.data, x < 256) → ∀ a ∈ es, ∀ b ∈ a.data, b < 256 := by
  induction h with
  | nil s => intro _ _ a ha; cases ha
  | cons hw hp ih =>
    intro ho hd a ha
    rcases List.mem_cons.1 ha with rfl | ha
    · intro b hb
      cases hw with
      | kind h => simp at hb
      | wbad h h' => simp at hb
      | write x h h' h'' => simp at hb
      | rbad h h' => simp at hb
      | read x m h h' h'' =>
        obtain ⟨k, _, rfl⟩ := List.mem_map.1 hb
        exact ho.byte _
      | cbad h h' => simp at hb
      | cut n h h' h'' => simp at hb
    · exact ih (way_ok ho (hd _ (by simp)) hw) (fun o hm => hd o (by simp [hm])) a ha
theorem plays_len {eK eR : Int} {s sf : Sf} {ops : List O} {es : List An} (h : Plays eK eR s ops es sf) : es.length = ops.length := by
  induction h with
  | nil s => rfl
  | cons hw hp ih => simp [ih]

set_option maxRecDepth 100000 in
set_option maxHeartbeats 1600000 in
theorem filePlays_walk (A : Option Addr) (n c : Nat) (l : List Om) (w : World) (hr : OL w A n l) (hn : n * 48 ≤ 140737488355328) :
    Calls Try.prog 4 #[.slice A n c] w (Ret w (.bool true)) := by
  obtain ⟨es, sf, hp⟩ := plays_any 5 2 (l.map Om.o) Sf.new
  have hby := plays_bytes hp Sf.new_ok (fun o ho => by
    obtain ⟨x, hx, rfl⟩ := List.mem_map.1 ho
    exact (hr.ok x hx).2.2.2.1)
  have hlen : es.length = n := by rw [plays_len hp, List.length_map, hr.len]
  have c1 := Lib.hid (play_any A n c l es sf w hr hn hp)
  have c2 := Lib.hid (fun w' (hb : Below w.heap.size w w') => rplay_any A n c l es sf w' ⟨hr.rd.later hb, hr.len, fun x hx => ⟨(hr.ok x hx).1.later hb, (hr.ok x hx).2⟩⟩ hn hp)
  have HB := Lib.hid hby
  have HL := Lib.hid hlen
  clear hr hp hby hlen
  go_enter Try.func4, Try.ntmps4
  go_wp2_with fail
  refine c1.out.mono ?_; rintro en w1 ⟨A1, n1, q1, bl, rfl, hk, hb1, outs, hal, ho⟩
  have S1 := Lib.hid hb1
  have HK := Lib.hid hk
  have HA := Lib.hid hal
  have HO := Lib.hid ho
  clear hb1 hk hal ho c1
  go_wp2_with fail
  refine (c2.out w1 S1.out).mono ?_; rintro en w2 ⟨A2, n2, q2, q, rfl, hq, hb2, outs2, hal2, ho2⟩
  obtain rfl : q = bl.length := hq bl HK.out
  have hm1 : outs.length = n := by rw [← HL.out, ← HO.out, List.length_map]
  have hm2 : outs2.length = n := by rw [← HL.out, ← ho2, List.length_map]
  obtain rfl : n1 = n := by rw [← hm1, HA.out.len]
  obtain rfl : n2 = n1 := by rw [← hm2, hal2.len]
  have S2 := Lib.hid (S1.out.trans (hb2.mono S1.out.size))
  have cE := Lib.hid (samefile_any A1 A2 n2 q1 q2 outs outs2 w2 (HA.out.later hb2) hal2 (by omega) (HO.out.trans ho2.symm) (fun x hx b hb => HB.out x.an (by rw [← HO.out]; exact List.mem_map_of_mem hx) b hb))
  clear c2 hq hb2 hal2 ho2 hm1 hm2
  go_wp2_with fail
  refine cE.out.mono ?_; rintro en w3 ⟨rfl, hb3⟩
  have S3 := Lib.hid (S2.out.trans (hb3.mono S2.out.size))
  clear hb3 cE
  go_wp2
  go_ret
  exact Ret.mk rfl S3.out

theorem byte_cells : Try.prog.cellsOf 5 = 1 := by kernel_rfl
theorem byte_bytes : Try.prog.bytesOf 5 = 1 := by kernel_rfl
theorem byte_parse {H : Type} {enc : TypeId × Value → H} {w : World} {base : Nat} {spare : Nat → Bool} {held : Bool} (n : Nat) (cs : List Value) (y : DataW H × List MemPlace)
    (h : DataW.trod enc Try.prog w base spare held n 5 cs = some y) : ∃ x : Nat, cs = bcell x ∧ x < 256 := by
  obtain ⟨n, hn, _, hw⟩ := DataW.trod_int Try.underlying5 h
  obtain ⟨h0, h1⟩ := u8_bounds hw
  refine ⟨n.toNat, ?_, by omega⟩
  rw [hn]
  show [Value.int .u8 n] = [Value.int .u8 (n.toNat : Int)]
  rw [Int.toNat_of_nonneg h0]
theorem op_cells : Try.prog.cellsOf 77 = 4 := by kernel_rfl
theorem op_bytes : Try.prog.bytesOf 77 = 48 := by kernel_rfl
def Om.fits (w : World) (x : Om) : Prop := Rd w w.heap.size 1 x.A x.n (x.ds.flatMap bcell) ∧ x.ds.length = x.n ∧ (∀ b ∈ x.ds, b < 256) ∧ (Lit.int .i64 x.kind).wf = true ∧ (Lit.int .i64 x.at_).wf = true ∧ (Lit.int .i64 x.many).wf = true
theorem op_parse {H : Type} {enc : TypeId × Value → H} {w : World} {base : Nat} {spare : Nat → Bool} {held : Bool} (n : Nat) (cs : List Value) (y : DataW H × List MemPlace)
    (h : DataW.trod enc Try.prog w base spare held n 77 cs = some y) : ∃ x : Om, cs = x.cells ∧ (x.fits w ∧ ∀ B, (∀ m ∈ y.1.weights Try.prog 77, m ≤ B) → x.n ≤ B) := by
  obtain ⟨hl, m, parts, hy, hf⟩ := parse_fields3 Try.underlying77 (by kernel_rfl) (by kernel_rfl) h
  obtain ⟨v0, z0, e0, t0, _⟩ := hf 0 _ rfl
  obtain ⟨v1, z1, e1, t1, _⟩ := hf 1 _ rfl
  obtain ⟨v2, z2, e2, t2, _⟩ := hf 2 _ rfl
  obtain ⟨v3, z3, e3, t3, hz3⟩ := hf 3 _ rfl
  obtain ⟨a, rfl, ha⟩ := parse_int Try.underlying3 t0
  obtain ⟨b, rfl, hb⟩ := parse_int Try.underlying3 t1
  obtain ⟨d, rfl, hd⟩ := parse_int Try.underlying3 t2
  obtain ⟨A, k, cap, l, hcs, hll, hnc, hcm, _, hrd, hby, hdat⟩ := open_list bcell (fun x => x < 256) Try.underlying75 byte_cells bcell_len (by omega) byte_parse t3
  simp only [List.cons.injEq, and_true] at hcs
  subst hcs
  match cs, hl with
  | [c0, c1, c2, c3], _ =>
    simp at e0 e1 e2 e3
    subst e0 e1 e2 e3
    refine ⟨⟨a, b, d, A, k, cap, l⟩, rfl, ⟨hrd, hll, hby, ha, hb, hd⟩, fun B hB => ?_⟩
    have h1 := weights_slice Try.underlying75 byte_bytes hdat (B := B) (fun m hm => hB m (weights_field Try.underlying77 hy rfl hz3 m hm))
    simp only
    omega

set_option maxRecDepth 100000 in
set_option maxHeartbeats 400000 in
theorem filePlays_lifted (os : Os) (started : os.Started) (H : Type) (enc : TypeId × Value → H) :
    ReturnsInHanded {} Try.checked os 4 .any (Rows.filePlaysSpec.pre6 enc Try.prog Try.f4 Rows.filePlaysRow.domain false)
      (Rows.filePlaysSpec.post enc Try.prog Try.f4 false true false false) := by
  refine returnsInHanded_of_change_sized (C := Try.checked) own started (by kernel_rfl) Try.func4
    (ChangeSpec.witness6 (enc := enc) (C := Try.checked) false ⟨#[], #[.slice none 0 0], []⟩ 8 (by kernel_rfl) (by kernel_rfl) (by kernel_rfl) (by kernel_rfl)) ?_
  intro W base args ds gs before hval0 hW hcnd hsz0 _
  have hval : ∀ (j : Nat) t v, Try.f4.params[j]? = some t → args[j]? = some v → Value.okWide Try.prog W .any base t v := hval0
  have hsz : (DataW.weightsEach Try.prog (Try.f4.params.toList ++ Rows.filePlaysSpec.plain.varTypes Try.prog) (ds ++ gs)).all (· ≤ reachBytes) = true := hsz0
  have hW0 := hW
  obtain ⟨p, q, hA0, hV, _, _, _⟩ := hW
  have hA : DataW.TrodAll enc Try.prog W 0 (fun _ => true) true Try.f4.params.toList args.toList ds p := hA0
  rw [Try.params4] at hA hval hsz
  obtain ⟨v0, vs0, d0, ds0, p0, q0, hargs, rfl, rfl, h0, r0⟩ := trodAll_cons hA
  obtain ⟨rfl, rfl, rfl⟩ := trodAll_nil r0
  obtain rfl : args = #[v0] := by cases args; simp_all
  obtain ⟨fu, hf⟩ := h0
  obtain ⟨A, n, cap, l, hcs, hl, hnc, hcm, _, hrd, hQ, hd⟩ := open_list2 Om.cells (fun x y => x.fits W ∧ ∀ B, (∀ m ∈ y.weights Try.prog 77, m ≤ B) → x.n ≤ B) Try.underlying32 op_cells Om.len (by omega) op_parse hf
  obtain rfl := slice_of hcs (okWide_slice Try.underlying32 (hval 0 _ v0 rfl rfl))
  have hn := reach_of hsz (j := 0) rfl rfl Try.underlying32 op_bytes hd
  have hok : ∀ x ∈ l, x.ok W := fun x hx => by
    obtain ⟨y, ⟨h1, h2⟩, hy⟩ := hQ x hx
    have h3 := h2 _ (reach_elem hsz (j := 0) rfl rfl Try.underlying32 hy)
    exact ⟨h1.1, h1.2.1, by omega, h1.2.2.1, h1.2.2.2⟩
  refine (filePlays_walk A n cap l W ⟨hrd, hl, hok⟩ (by omega)).mono fun e W' ⟨he, hg⟩ => ⟨_, he, ?_⟩
  exact law_post laidOut Try.underlying4 rfl rfl (by kernel_rfl) (fun xs hx => by
    match xs, hx with
    | [_], _ => rfl) hW0 hg
theorem filePlays_over : Rows.filePlaysRow.holds Try.pinned (OpenSpec.ofChange Rows.filePlaysSpec) :=
  OpenClaim.holds_of_wide 4 Try.f4 rfl rfl rfl rfl rfl rfl rfl ⟨rfl, rfl, rfl, rfl, rfl⟩ rfl rfl rfl rfl rfl (by kernel_rfl) Try.func4 (by kernel_rfl)
    (of_decide_eq_true (by kernel_rfl)) (by unfold Func.isWrapper; first | (rw [if_pos (by decide +kernel)]; kernel_rfl) | (rw [if_neg (by decide +kernel)]; exact ⟨rfl, rfl⟩))
    (fun os started H enc _ => filePlays_lifted os started H enc)
theorem filePlays_holds : Rows.FilePlaysSaid := filePlays_over
end Fl
theorem filePlays_holds : Rows.FilePlaysSaid := Fl.filePlays_holds
end Go.Proofs.Ytfljbiobiobamaa
