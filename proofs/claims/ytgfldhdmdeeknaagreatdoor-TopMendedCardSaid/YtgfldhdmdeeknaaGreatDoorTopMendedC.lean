/-
  TopMended: a sealed text laid down by words with check bits, one bit turned of each, is opened as it was, at every argument (the card of the first form). Conditions: the listed tables and sentinels lie as the program's text lays them (tied).
-/
import Derived.Test.YtgfldhdmdeeknaaGreatDoorTmW
import Derived.Test.YtgfldhdmdeeknaaGreatDoorCards
import Derived.Test.YtgfldhdmdeeknaaGreatDoorTie
import Derived.Test.YtgfldhdmdeeknaaGreatDoorArgs
import Derived.Deep.DeepHandedRow
import Derived.Deep.DeepWitnessRowRef
import Derived.Lib.LaidTab
import Derived.Stop.LaidErr
import Derived.Shelf.Vars
import Derived.LaidMore
namespace Go.Proofs.YtgfldhdmdeeknaaGreatDoor
open Go.ChangeShapes Go.WideShapes Go.ChangeAt Go.RowKit
open Go.ChangeMaps (open_string shut_string)
set_option linter.unusedVariables false
namespace Bn

theorem star : "*" ++ "errors.errorString" = "*errors.errorString" := by decide
theorem err_row (u : TypeId) (h : Tryz.prog.typeName? 3 u = some "*errors.errorString") : u = 156 :=
  typeName_ptr_named (nm := "errors.errorString") (by rw [star]; kernel_rfl) (by kernel_rfl) (by decide) u (by rw [star]; exact h)
theorem pow_rfl : (Rows.laid_internal_strconv_uint64pow10 : DataW Unit) = Lib.tabData .u64 Lib.pow10Tab := by kernel_rfl
theorem gl_of {W : World} (hL : laidMet Tryz.prog Rows.topMendedRow.laid W) (hsh : W.ShapedOpen Tryz.prog) : Gl W := by
  have h2 := laidMet.tail (laidMet.tail hL)
  have h5 := laidMet.tail (laidMet.tail h2)
  have h6 := laidMet.tail h5
  have h7 := laidMet.tail h6
  have tab := Lib.tabIs_of_head (k := .u64) (zs := Lib.pow10Tab) (g := 2) (t := 133) (e := 28) (n := 20) (by kernel_rfl) (by kernel_rfl) (by kernel_rfl) (by kernel_rfl) (by kernel_rfl) (by kernel_rfl) (pow_rfl ▸ h2)
  obtain ⟨a5, s5, v5, _⟩ := laid_sentinel (g := 4) (ti := 78) (ts := 9) h5 (by kernel_rfl) (by kernel_rfl) Tryz.underlying78 err_row Tryz.underlying156 Tryz.underlying158 rfl rfl Tryz.underlying9 (by kernel_rfl) (by kernel_rfl)
  obtain ⟨a6, s6, v6, _⟩ := laid_sentinel (g := 3) (ti := 78) (ts := 9) h6 (by kernel_rfl) (by kernel_rfl) Tryz.underlying78 err_row Tryz.underlying156 Tryz.underlying158 rfl rfl Tryz.underlying9 (by kernel_rfl) (by kernel_rfl)
  obtain ⟨a7, s7, v7, _⟩ := laid_sentinel (g := 1) (ti := 78) (ts := 9) h7 (by kernel_rfl) (by kernel_rfl) Tryz.underlying78 err_row Tryz.underlying156 Tryz.underlying158 rfl rfl Tryz.underlying9 (by kernel_rfl) (by kernel_rfl)
  have hm := cell_of_shapedOpen_int (P := Tryz.prog) (g := 0) (t := 3) (zero := #[.int .i64 0]) hsh (of_decide_eq_true (by kernel_rfl)) (by kernel_rfl) rfl (by kernel_rfl) (by kernel_rfl) Tryz.underlying3
  have hg7 : Tryz.prog.globalNamed "encoding/hex.ErrLength" = some 1 := by kernel_rfl
  exact ⟨tab, hm, ⟨_, _, v6⟩, ⟨_, _, v5⟩, ⟨_, World.var?_cell hg7 v7 0⟩⟩
def firstCells : Array Value := (Pinned.utf8FirstZ.map fun (n : Nat) => Value.int .u8 (n : Int)).toArray
def layObj (cs : Array Value) : Obj → Obj
  | .cells _ t frozen => .cells cs t frozen
  | o => o
noncomputable def laidWorld (os : Os) : World :=
  { World.doorLaid Tryz.prog 91 os with heap := (World.doorLaid Tryz.prog 91 os).heap.modify 7 (layObj firstCells) }
noncomputable abbrev start (os : Os) : World := (laidWorld os).forCall (fun _ _ => 0) ⟨#[], #[.slice none 0 0, .slice none 0 0], []⟩

set_option maxRecDepth 1000000 in
theorem bench_met (os : Os) : laidMet Tryz.prog Rows.topMendedRow.laid (start os).memory :=
  laidMet_of_run' 8 (by kernel_rfl) (by kernel_rfl)

theorem byte_cells : Tryz.prog.cellsOf 5 = 1 := by kernel_rfl
theorem byte_parse {H : Type} {enc : TypeId × Value → H} {w : World} {base : Nat} {spare : Nat → Bool} {held : Bool} (n : Nat) (cs : List Value) (y : DataW H × List MemPlace)
    (h : DataW.trod enc Tryz.prog w base spare held n 5 cs = some y) : ∃ x : Nat, cs = bcell x ∧ x < 256 := by
  obtain ⟨z, rfl, _, wz⟩ := DataW.trod_int Tryz.underlying5 h
  obtain ⟨h0, h1⟩ := u8_bounds wz
  exact ⟨z.toNat, by simp [bcell]; omega, by omega⟩
theorem int_cells : Tryz.prog.cellsOf 3 = 1 := by kernel_rfl
theorem int_parse {H : Type} {enc : TypeId × Value → H} {w : World} {base : Nat} {spare : Nat → Bool} {held : Bool} (n : Nat) (cs : List Value) (y : DataW H × List MemPlace)
    (h : DataW.trod enc Tryz.prog w base spare held n 3 cs = some y) : ∃ x : Int, cs = icell x ∧ True := by
  obtain ⟨z, rfl, _⟩ := DataW.trod_int Tryz.underlying3 h
  exact ⟨z, rfl, trivial⟩

theorem bench_reads (os : Os) {H : Type} (enc : TypeId × Value → H) : ∃ places, DataW.whole enc Tryz.prog (start os).memory Tryz.f3.params.toList Rows.topMendedSpec.vars false #[Value.slice none 0 0, Value.slice none 0 0].toList 8 = some ([.nil, .nil], [], places) :=
  ⟨[], by kernel_rfl⟩
set_option maxRecDepth 1000000 in
theorem bench_lifted (os : Os) (started : os.Started) (H : Type) (enc : TypeId × Value → H) (F : Stop.Interp) :
    ReturnsInHanded {} Tryz.checked os 3 .any ((OpenSpec.ofChange Rows.topMendedSpec).preRow enc Tryz.prog Tryz.f3 Rows.topMendedRow.domain false Rows.topMendedRow.laid) (((OpenSpec.ofChange Rows.topMendedSpec).at F).post enc Tryz.prog Tryz.f3 false true false false) := by
  obtain ⟨places, hx⟩ := bench_reads os enc
  refine returnsInHanded_of_row (C := Tryz.checked) (s := OpenSpec.ofChange Rows.topMendedSpec) own started (by kernel_rfl) Tryz.func3
    (witness_row_atRef (enc := enc) (C := Tryz.checked) false (laidWorld os) #[.slice none 0 0, .slice none 0 0] rfl (by kernel_rfl) (by kernel_rfl) (by kernel_rfl)
      (OpenSpec.preRow_of_cond 8 hx (by kernel_rfl) (fun k hk => by cases hk) (by kernel_rfl) (bench_met os))) ?_
  intro W base args ds gs before hval0 hW _ hcond _ hL hsh _
  have hval : ∀ (j : Nat) t v, Tryz.f3.params[j]? = some t → args[j]? = some v → Value.okWide Tryz.prog W .any base t v := hval0
  have hW0 := hW
  obtain ⟨p, q, hA0, hV, _, _, _⟩ := hW
  have hA : DataW.TrodAll enc Tryz.prog W 0 (fun _ => true) true Tryz.f3.params.toList args.toList ds p := hA0
  rw [Tryz.params3] at hA hval
  obtain ⟨v0, vs0, d0, ds0, p0, q0, hargs, rfl, rfl, h0, r0⟩ := trodAll_cons hA
  obtain ⟨v1, vs1, d1, ds1, p1, q1, rfl, rfl, rfl, h1, r1⟩ := trodAll_cons r0
  obtain ⟨rfl, rfl, rfl⟩ := trodAll_nil r1
  obtain rfl : args = #[v0, v1] := by cases args; simp_all
  obtain ⟨fu0, hf0⟩ := h0
  obtain ⟨fu1, hf1⟩ := h1
  obtain ⟨A, n, cap, l, hcs, hl, hnc, hcm, _, hrd, hQ, hd⟩ := open_list bcell (fun x => x < 256) Tryz.underlying22 byte_cells bcell_len (by omega) byte_parse hf0
  obtain rfl := slice_of hcs (okWide_slice Tryz.underlying22 (hval 0 _ v0 rfl rfl))
  obtain ⟨A2, n2, cap2, l2, hcs2, hl2, hnc2, hcm2, _, hrd2, _, hd2⟩ := open_list icell (fun _ => True) Tryz.underlying23 int_cells icell_len (by omega) int_parse hf1
  obtain rfl := slice_of hcs2 (okWide_slice Tryz.underlying23 (hval 1 _ v1 rfl rfl))
  have hn : n ≤ 9223372036854775807 := by unfold maxLen at hcm; omega
  have hn2 : n2 ≤ 9223372036854775807 := by unfold maxLen at hcm2; omega
  have hw := Tm.topMended_walk A n cap l A2 n2 cap2 l2 W hrd hl (by omega) hQ hrd2 hl2 (by omega) (gl_of hL hsh)
  refine hw.mono fun e W' ⟨he, hg⟩ => ⟨_, he, ?_⟩
  exact law_post laidOut Tryz.underlying4 rfl rfl (by kernel_rfl) (fun xs hx => by
    match xs, hx with
    | [_, _], _ => rfl) hW0 hg
theorem bench_said : Rows.TopMendedSaid :=
  OpenClaim.holds_of_cond 3 Tryz.f3 rfl rfl rfl rfl rfl rfl rfl ⟨rfl, rfl, rfl, rfl, rfl⟩ rfl rfl rfl rfl rfl (by kernel_rfl) Tryz.func3 (by kernel_rfl)
    (of_decide_eq_true (by kernel_rfl)) (by unfold Func.isWrapper; first | (rw [if_pos (by decide +kernel)]; kernel_rfl) | (rw [if_neg (by decide +kernel)]; exact ⟨rfl, rfl⟩))
    (fun os started H enc _ F => by rw [OpenClaim.pre_eq_preRow]; exact bench_lifted os started H enc F)
theorem bench_plain (f : FuncId) (fn : Func) (hf : Tryz.pinned.checked.prog.funcNamed "flintstore/flintstoretop.TopMended" = some f) (hfn : Tryz.pinned.checked.prog.funcs[f]? = some fn) :
    true = Tryz.pinned.checked.prog.looks [] ∧ ∀ (j : Nat) t, fn.params[j]? = some t → Tryz.pinned.checked.prog.wantsStandIn t = false := by
  obtain rfl : f = 3 := Option.some.inj ((show Tryz.prog.funcNamed "flintstore/flintstoretop.TopMended" = some 3 by kernel_rfl).symm.trans hf) |>.symm
  obtain rfl : fn = Tryz.f3 := (Option.some.inj (Tryz.func3.symm.trans hfn)).symm
  refine ⟨by kernel_rfl, fun j t ht => ?_⟩
  rw [Tryz.params3] at ht
  have hm : t = 22 ∨ t = 23 := by simpa using Array.mem_of_getElem? ht
  rcases hm with rfl | rfl
  · exact (show Tryz.prog.wantsStandIn 22 = false by kernel_rfl)
  · exact (show Tryz.prog.wantsStandIn 23 = false by kernel_rfl)
end Bn
theorem topMended_holds : Rows.TopMendedCardSaid :=
  Claim7.holds_tied_plain_at .later [] _ _ _ _ Bn.bench_said (fun _ h => by cases h) (by kernel_rfl) (fun _ h => by cases h) topMended_row_tie rfl ⟨rfl, rfl⟩ (by kernel_rfl) rfl Bn.bench_plain (by kernel_rfl)
end Go.Proofs.YtgfldhdmdeeknaaGreatDoor
