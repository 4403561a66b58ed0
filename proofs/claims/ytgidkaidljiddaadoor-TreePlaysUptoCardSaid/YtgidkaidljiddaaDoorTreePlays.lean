/-
  TreePlays: tree.Play answers as the reference does, for every list of operations of bulk at most 1048576 (the card of the second form). Conditions: the arguments' bulk; Go's tables unicode/utf8.first and acceptRanges lie as the program's text lays them (tied).
-/
import Derived.Test.YtgidkaidljiddaaDoorTrR3
import Derived.Test.YtgidkaidljiddaaDoorCards
import Derived.Test.YtgidkaidljiddaaDoorTie
import Derived.Test.YtgidkaidljiddaaDoorArgs
import Derived.Test.YtgidkaidljiddaaDoorEq
import Derived.Deep.DeepHandedRow
import Derived.Lib.LaidTab
namespace Go.Proofs.YtgidkaidljiddaaDoor
open Go.ChangeShapes Go.WideShapes Go.ChangeAt Go.RowKit
open Go.ChangeMaps (open_string shut_string)
set_option linter.unusedVariables false
namespace Tr
open Dr Pt

theorem Lf.facts {l : List Lf} {k : Nat} {x : Lf} {b off B : Nat} {w w' : World} (hb : b < B) (hB : Below B w w') (hc : ∀ (j d : Nat) (x : Lf) (v : Value), l[j]? = some x → x.cells[d]? = some v → w.cell? ⟨b, off + (j * 3 + d), none⟩ = some v) (hx : l[k]? = some x) :
    w'.cell? ⟨b, off + k * 3, none⟩ = some (.string x.path) ∧ w'.cell? ⟨b, off + k * 3 + 1, none⟩ = some (.bool x.folder) ∧ w'.cell? ⟨b, off + k * 3 + 2, none⟩ = some (.int .i64 x.links) :=
  ⟨(hB.cell hb).trans (hc k 0 x _ hx rfl), (hB.cell hb).trans (hc k 1 x _ hx rfl), (hB.cell hb).trans (hc k 2 x _ hx rfl)⟩
theorem neqLf (x : Lf) (w : World) : (binOp .neq 31 (.agg #[.string x.path, .bool x.folder, .int .i64 x.links]) (.agg #[.string x.path, .bool x.folder, .int .i64 x.links])).run Tryd.prog w = .ok (.bool false) w := by
  obtain ⟨a, b, c⟩ := x
  exact run_neq_self _ _ w (by kernel_rfl)
set_option maxHeartbeats 1600000 in
theorem equal_leaves (A A' : Option Addr) (n c c' : Nat) (l : List Lf) (w : World) (hr : Rd w w.heap.size 3 A n (l.flatMap Lf.cells)) (hr' : Rd w w.heap.size 3 A' n (l.flatMap Lf.cells)) (hl : l.length = n) (hn : n ≤ 9223372036854775807) :
    Calls Tryd.prog 7 #[.slice A n c, .slice A' n c'] w (Ret w (.bool true)) := by
  have HR := Lib.hid hr
  have HR' := Lib.hid hr'
  have HL := Lib.hid hl
  clear hr hr' hl
  go_enter Tryd.func7, Tryd.ntmps7
  go_wp2
  go_loopg [13] n (fun g i wr => ∃ k : Nat, k ≤ n ∧ g = n - k ∧ i = .int .i64 k ∧ Below w.heap.size w wr)
  case atStart => exact ⟨0, Nat.zero_le _, rfl, rfl, Below.refl _ _⟩
  case round =>
    obtain ⟨k, hk, rfl, rfl, hB⟩ := hrel
    by_cases hlt : k < n
    · obtain ⟨b, off, rfl, hb, hc⟩ := HR.out.at_ Lf.len (by omega)
      obtain ⟨b', off', rfl, hb', hc'⟩ := HR'.out.at_ Lf.len (by omega)
      obtain ⟨y, hy⟩ : ∃ y, l[k]? = some y := ⟨_, List.getElem?_eq_getElem (by rw [HL.out]; exact hlt)⟩
      have d1 := Lf.facts hb hB hc hy
      have d2 := Lf.facts hb' hB hc' hy
      have E := neqLf y
      have i0 : (0 : Int) ≤ (k : Int) := by omega
      have i1 : (k : Int) < (n : Int) := by omega
      clear hc hc' hy
      go_wp2
      go_quiet (fail)
      go_wp2
      generalize hxw : World.drewN wr _ = xw
      have xh : Below wr.heap.size wr xw := by rw [← hxw]; exact below_drewN (Below.refl _ _) _
      clear hxw
      go_roundg (n - (k + 1))
      case measure => omega
      case rel => exact ⟨k + 1, by omega, rfl, by go_num, hB.trans (xh.mono hB.size)⟩
    · go_wp2
      go_ret
      exact Ret.mk rfl hB
set_option maxHeartbeats 1600000 in
theorem equal_errs (A A' : Option Addr) (n c c' : Nat) (l : List Int) (w : World) (hr : Rd w w.heap.size 1 A n (l.flatMap ec)) (hr' : Rd w w.heap.size 1 A' n (l.flatMap ec)) (hl : l.length = n) (hn : n ≤ 9223372036854775807) :
    Calls Tryd.prog 6 #[.slice A n c, .slice A' n c'] w (Ret w (.bool true)) := by
  have HR := Lib.hid hr
  have HR' := Lib.hid hr'
  have HL := Lib.hid hl
  clear hr hr' hl
  go_enter Tryd.func6, Tryd.ntmps6
  go_wp2
  go_loopg [13] n (fun g i wr => ∃ k : Nat, k ≤ n ∧ g = n - k ∧ i = .int .i64 k ∧ Below w.heap.size w wr)
  case atStart => exact ⟨0, Nat.zero_le _, rfl, rfl, Below.refl _ _⟩
  case round =>
    obtain ⟨k, hk, rfl, rfl, hB⟩ := hrel
    by_cases hlt : k < n
    · obtain ⟨b, off, rfl, hb, hc⟩ := HR.out.at_ ec_len (by omega)
      obtain ⟨b', off', rfl, hb', hc'⟩ := HR'.out.at_ ec_len (by omega)
      obtain ⟨y, hy⟩ : ∃ y, l[k]? = some y := ⟨_, List.getElem?_eq_getElem (by rw [HL.out]; exact hlt)⟩
      have d1 : wr.cell? ⟨b, off + k, none⟩ = some (.int .i64 y) := (hB.cell (p := ⟨b, off + k, none⟩) hb).trans (by simpa using hc k 0 y _ hy rfl)
      have d2 : wr.cell? ⟨b', off' + k, none⟩ = some (.int .i64 y) := (hB.cell (p := ⟨b', off' + k, none⟩) hb').trans (by simpa using hc' k 0 y _ hy rfl)
      have E : (y != y) = false := by simp
      have i0 : (0 : Int) ≤ (k : Int) := by omega
      have i1 : (k : Int) < (n : Int) := by omega
      clear hc hc' hy
      go_wp2
      go_quiet (fail)
      go_wp2
      generalize hxw : World.drewN wr _ = xw
      have xh : Below wr.heap.size wr xw := by rw [← hxw]; exact below_drewN (Below.refl _ _) _
      clear hxw
      go_roundg (n - (k + 1))
      case measure => omega
      case rel => exact ⟨k + 1, by omega, rfl, by go_num, hB.trans (xh.mono hB.size)⟩
    · go_wp2
      go_ret
      exact Ret.mk rfl hB

set_option maxRecDepth 100000 in
set_option maxHeartbeats 1600000 in
theorem treePlays_walk (A : Option Addr) (n c : Nat) (l : List TOp) (w : World) (hr : Rd w w.heap.size 3 A n (l.flatMap TOp.cells)) (hl : l.length = n) (hn : n ≤ 1048576) (hwf : ∀ o ∈ l, o.x.length ≤ 1048576 ∧ o.y.length ≤ 1048576) :
    Calls Tryd.prog 3 #[.slice A n c] w (Ret w (.bool true)) := by
  obtain ⟨an, H1, F1, n1, hp⟩ := plays_ex (l.map TOp.op) H0 F0 1
  have hla : an.length = n := by rw [plays_len hp, List.length_map, hl]
  have HLA := Lib.hid hla
  have cP := Lib.hid (play_any A n c l an H1 F1 n1 w hr hl hn hp hwf)
  have cX := Lib.hid (fun W (hW : Below w.heap.size w W) => qplay_any A n c l an H1 F1 n1 W (hr.later hW) hl hn hp hwf)
  clear hr hl hp hwf hla
  go_enter Tryd.func3, Tryd.ntmps3
  go_wp2_with fail
  refine cP.out.mono ?_; rintro en w1 ⟨A1, c1, A2, m, c2, ks, rfl, HLK, HK, hc1, hm, hs1⟩
  have H1 := Lib.hid hs1
  clear hs1 cP
  go_wp2_with fail
  refine (cX.out w1 H1.out.below).mono ?_; rintro en w2 ⟨A3, c3, A4, m4, c4, ks4, rfl, HLK4, HK4, hc3, hm4, hs2⟩
  have hkk : ks4 = ks := leaves_one HK4.out HK.out
  subst hkk
  have hmm : m4 = m := by rw [← HLK4.out, HLK.out]
  subst hmm
  have H2 := Lib.hid (H1.out.join hs2)
  clear hs2 cX HK HK4 HLK4 H1
  have cE := Lib.hid (equal_errs A1 A3 n c1 c3 an w2 (H2.out.rd 0 rfl) (H2.out.rd 2 rfl) HLA.out (by omega))
  go_wp2_with fail
  refine cE.out.mono ?_; rintro en w3 ⟨rfl, hb3⟩
  have H3 := Lib.hid (H2.out.later hb3)
  clear hb3 cE H2
  have cE := Lib.hid (equal_leaves A2 A4 m4 c2 c4 ks4 w3 (H3.out.rd 1 rfl) (H3.out.rd 3 rfl) HLK.out (by omega))
  go_wp2_with fail
  refine cE.out.mono ?_; rintro en w4 ⟨rfl, hb4⟩
  have HF := Lib.hid (H3.out.later hb4).below
  clear hb4 cE H3
  go_wp2
  go_ret
  exact Ret.mk rfl HF.out

theorem op_cells : Tryd.prog.cellsOf 39 = 3 := by kernel_rfl
theorem op_parse {H : Type} {enc : TypeId × Value → H} {w : World} {base : Nat} {spare : Nat → Bool} {held : Bool} (n : Nat) (cs : List Value) (y : DataW H × List MemPlace)
    (h : DataW.trod enc Tryd.prog w base spare held n 39 cs = some y) : ∃ x : TOp, cs = x.cells ∧ (x.x.length ≤ Rows.uptoBulk y.1 ∧ x.y.length ≤ Rows.uptoBulk y.1) := by
  obtain ⟨hl, m, parts, hy, hf⟩ := parse_fields2 Tryd.underlying39 (by kernel_rfl) (by kernel_rfl) h
  obtain ⟨v0, z0, e0, t0, _⟩ := hf 0 _ rfl
  obtain ⟨v1, z1, e1, t1, m1⟩ := hf 1 _ rfl
  obtain ⟨v2, z2, e2, t2, m2⟩ := hf 2 _ rfl
  obtain ⟨a, rfl, _⟩ := parse_int Tryd.underlying3 t0
  obtain ⟨b, hb, hz1, _⟩ := DataW.trod_string Tryd.underlying9 t1
  obtain ⟨c, hc, hz2, _⟩ := DataW.trod_string Tryd.underlying9 t2
  obtain rfl : v1 = .string b := by simpa using hb
  obtain rfl : v2 = .string c := by simpa using hc
  have b1 := bulk_agg hy m1
  have b2 := bulk_agg hy m2
  rw [hz1] at b1
  rw [hz2] at b2
  simp only [Rows.uptoBulk] at b1 b2
  match cs, hl with
  | [c0, c1, c2], _ =>
    simp at e0 e1 e2
    subst e0 e1 e2
    refine ⟨⟨a, b.data.toList, c.data.toList⟩, ?_, by show b.data.toList.length ≤ _; omega, by show c.data.toList.length ≤ _; omega⟩
    unfold TOp.cells
    simp only
    rw [bs_of, bs_of]

def accCells : Array Value := #[.int .u8 128, .int .u8 191, .int .u8 160, .int .u8 191, .int .u8 128, .int .u8 159, .int .u8 144, .int .u8 191, .int .u8 128, .int .u8 143, .int .u8 0, .int .u8 0, .int .u8 0, .int .u8 0, .int .u8 0, .int .u8 0, .int .u8 0, .int .u8 0, .int .u8 0, .int .u8 0, .int .u8 0, .int .u8 0, .int .u8 0, .int .u8 0, .int .u8 0, .int .u8 0, .int .u8 0, .int .u8 0, .int .u8 0, .int .u8 0, .int .u8 0, .int .u8 0]
def firstCells : Array Value := (Pinned.utf8FirstZ.map fun (n : Nat) => Value.int .u8 (n : Int)).toArray
def layObj (cs : Array Value) : Obj → Obj
  | .cells _ t frozen => .cells cs t frozen
  | o => o
/-- a start in which Go's two tables lie as they are laid -/
noncomputable def laidWorld (os : Os) : World :=
  { World.holding Tryd.prog os ⟨#[], #[], []⟩ with heap := ((World.holding Tryd.prog os ⟨#[], #[], []⟩).heap.modify 1 (layObj firstCells)).modify 2 (layObj accCells) }

theorem treePlays_met (os : Os) : laidMet Tryd.prog Rows.treePlaysUptoRow.laid ((laidWorld os).forCall (fun _ _ => 0) ⟨#[], #[.slice none 0 0], []⟩).memory :=
  laidMet_of_run' 8 (by kernel_rfl) (by kernel_rfl)
theorem treePlays_reads (os : Os) {H : Type} (enc : TypeId × Value → H) : ∃ places, DataW.whole enc Tryd.prog ((laidWorld os).forCall (fun _ _ => 0) ⟨#[], #[.slice none 0 0], []⟩).memory Tryd.f3.params.toList Rows.treePlaysSpec.vars false #[Value.slice none 0 0].toList 8 = some ([.nil], [], places) :=
  ⟨[], by kernel_rfl⟩
set_option maxRecDepth 100000 in
theorem treePlays_lifted (os : Os) (started : os.Started) (H : Type) (enc : TypeId × Value → H) (F : Stop.Interp) :
    ReturnsInHanded {} Tryd.checked os 3 .any ((Rows.OpenSpec.upto Rows.treePlaysSpec).preRow enc Tryd.prog Tryd.f3 Rows.treePlaysUptoRow.domain false Rows.treePlaysUptoRow.laid) (((Rows.OpenSpec.upto Rows.treePlaysSpec).at F).post enc Tryd.prog Tryd.f3 false true false false) := by
  obtain ⟨places, hx⟩ := treePlays_reads os enc
  refine returnsInHanded_of_row (C := Tryd.checked) (s := Rows.OpenSpec.upto Rows.treePlaysSpec) own started (by kernel_rfl) Tryd.func3
    (witness_row_at (enc := enc) (C := Tryd.checked) false (laidWorld os) #[.slice none 0 0] rfl (by kernel_rfl) (by kernel_rfl) (by kernel_rfl)
      (OpenSpec.preRow_of_cond 8 hx (by kernel_rfl) (fun k hk => by cases hk; kernel_rfl) (by kernel_rfl) (treePlays_met os))) ?_
  intro W base args ds gs before hval0 hW _ hcond _ hL _ _
  have hk : Rows.uptoSmall H (ds ++ gs) = true := hcond _ rfl
  have hval : ∀ (j : Nat) t v, Tryd.f3.params[j]? = some t → args[j]? = some v → Value.okWide Tryd.prog W .any base t v := hval0
  have hW0 := hW
  obtain ⟨p, q, hA0, hV, _, _, _⟩ := hW
  have hA : DataW.TrodAll enc Tryd.prog W 0 (fun _ => true) true Tryd.f3.params.toList args.toList ds p := hA0
  rw [Tryd.params3] at hA hval
  obtain ⟨v0, vs0, d0, ds0, p0, q0, hargs, rfl, rfl, h0, r0⟩ := trodAll_cons hA
  obtain ⟨rfl, rfl, rfl⟩ := trodAll_nil r0
  obtain rfl : args = #[v0] := by cases args; simp_all
  obtain ⟨fu0, hf0⟩ := h0
  obtain ⟨A, n, cap, l, hcs, hl, hnc, hcm, _, hrd, hQ, hd⟩ := open_list2 TOp.cells (fun x y => x.x.length ≤ Rows.uptoBulk y ∧ x.y.length ≤ Rows.uptoBulk y) Tryd.underlying22 op_cells TOp.len (by omega) op_parse hf0
  obtain rfl := slice_of hcs (okWide_slice Tryd.underlying22 (hval 0 _ v0 rfl rfl))
  have hn := bulk_slice hk (by simp) hd
  have hb1 : Rows.uptoBulk d0 ≤ 1048576 := Nat.le_trans (bulk_part (by simp)) (bulk_bound hk)
  have hok : ∀ o ∈ l, o.x.length ≤ 1048576 ∧ o.y.length ≤ 1048576 := fun o ho => by
    obtain ⟨y, ⟨q1, q2⟩, hy⟩ := hQ o ho
    have h9 : Rows.uptoBulk y ≤ Rows.uptoBulk d0 := bulk_elem hy
    exact ⟨by omega, by omega⟩
  have hw := treePlays_walk A n cap l W hrd hl (by omega) hok
  refine hw.mono fun e W' ⟨he, hg⟩ => ⟨_, he, ?_⟩
  exact law_post laidOut Tryd.underlying4 rfl rfl (by kernel_rfl) (fun xs hx => by
    match xs, hx with
    | [_], _ => rfl) hW0 hg
theorem treePlays_said : Rows.TreePlaysUptoSaid :=
  OpenClaim.holds_of_cond 3 Tryd.f3 rfl rfl rfl rfl rfl rfl rfl ⟨rfl, rfl, rfl, rfl, rfl⟩ rfl rfl rfl rfl rfl (by kernel_rfl) Tryd.func3 (by kernel_rfl)
    (of_decide_eq_true (by kernel_rfl)) (by unfold Func.isWrapper; first | (rw [if_pos (by decide +kernel)]; kernel_rfl) | (rw [if_neg (by decide +kernel)]; exact ⟨rfl, rfl⟩))
    (fun os started H enc _ F => by rw [OpenClaim.pre_eq_preRow]; exact treePlays_lifted os started H enc F)
theorem treePlays_plain (f : FuncId) (fn : Func) (hf : Tryd.pinned.checked.prog.funcNamed "flintstore/flintstorelaw.TreePlays" = some f) (hfn : Tryd.pinned.checked.prog.funcs[f]? = some fn) :
    false = Tryd.pinned.checked.prog.looks [] ∧ ∀ (j : Nat) t, fn.params[j]? = some t → Tryd.pinned.checked.prog.wantsStandIn t = false := by
  obtain rfl : f = 3 := Option.some.inj ((show Tryd.prog.funcNamed "flintstore/flintstorelaw.TreePlays" = some 3 by kernel_rfl).symm.trans hf) |>.symm
  obtain rfl : fn = Tryd.f3 := (Option.some.inj (Tryd.func3.symm.trans hfn)).symm
  refine ⟨by kernel_rfl, fun j t ht => ?_⟩
  rw [Tryd.params3] at ht
  obtain rfl : t = 22 := by simpa using Array.mem_of_getElem? ht
  exact (show Tryd.prog.wantsStandIn 22 = false by kernel_rfl)
end Tr
theorem treePlays_holds : Rows.TreePlaysUptoCardSaid :=
  Claim7.holds_tied_plain_at .later [] _ _ _ _ Tr.treePlays_said (fun _ h => by cases h) (by kernel_rfl) (fun _ h => by cases h) treePlaysUpto_row_tie rfl ⟨rfl, rfl⟩ (by kernel_rfl) rfl Tr.treePlays_plain (by kernel_rfl)
end Go.Proofs.YtgidkaidljiddaaDoor
