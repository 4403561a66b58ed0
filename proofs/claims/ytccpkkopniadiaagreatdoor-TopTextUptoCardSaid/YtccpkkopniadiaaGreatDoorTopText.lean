/-
  TopText: what is told of the text of operations is what comes of them, for operations of bulk at most 1048576 (the card of the second form). Conditions: the bulk; the listed tables and sentinels lie as the program's text lays them (tied).
-/
import Derived.Test.YtccpkkopniadiaaGreatDoorTxT
import Derived.Test.YtccpkkopniadiaaGreatDoorCards
import Derived.Test.YtccpkkopniadiaaGreatDoorTie
import Derived.Test.YtccpkkopniadiaaGreatDoorBulk3
import Derived.Deep.DeepHandedRow
import Derived.Deep.DeepWitnessRowRef
import Derived.Lib.LaidTab
import Derived.Stop.LaidErr
import Derived.Shelf.Vars
import Derived.LaidMore
namespace Go.Proofs.YtccpkkopniadiaaGreatDoor
open Go.ChangeShapes Go.WideShapes Go.ChangeAt Go.RowKit
open Go.ChangeMaps (open_string shut_string)
set_option linter.unusedVariables false
namespace Bn

theorem star : "*" ++ "errors.errorString" = "*errors.errorString" := by decide
theorem err_row (u : TypeId) (h : Tryz.prog.typeName? 3 u = some "*errors.errorString") : u = 174 :=
  typeName_ptr_named (nm := "errors.errorString") (by rw [star]; kernel_rfl) (by kernel_rfl) (by decide) u (by rw [star]; exact h)
theorem pow_rfl : (Rows.laid_internal_strconv_uint64pow10 : DataW Unit) = Lib.tabData .u64 Lib.pow10Tab := by kernel_rfl
theorem gl_of {W : World} (hL : laidMet Tryz.prog Rows.topTextUptoRow.laid W) (hsh : W.ShapedOpen Tryz.prog) : Gl W := by
  have h2 := laidMet.tail (laidMet.tail hL)
  have h5 := laidMet.tail (laidMet.tail h2)
  have h6 := laidMet.tail h5
  have h7 := laidMet.tail h6
  have tab := Lib.tabIs_of_head (k := .u64) (zs := Lib.pow10Tab) (g := 0) (t := 124) (e := 44) (n := 20) (by kernel_rfl) (by kernel_rfl) (by kernel_rfl) (by kernel_rfl) (by kernel_rfl) (by kernel_rfl) (pow_rfl ▸ h2)
  obtain ⟨a5, s5, v5, _⟩ := laid_sentinel (g := 4) (ti := 64) (ts := 9) h5 (by kernel_rfl) (by kernel_rfl) Tryz.underlying64 err_row Tryz.underlying174 Tryz.underlying176 rfl rfl Tryz.underlying9 (by kernel_rfl) (by kernel_rfl)
  obtain ⟨a6, s6, v6, _⟩ := laid_sentinel (g := 3) (ti := 64) (ts := 9) h6 (by kernel_rfl) (by kernel_rfl) Tryz.underlying64 err_row Tryz.underlying174 Tryz.underlying176 rfl rfl Tryz.underlying9 (by kernel_rfl) (by kernel_rfl)
  obtain ⟨a7, s7, v7, _⟩ := laid_sentinel (g := 2) (ti := 64) (ts := 9) h7 (by kernel_rfl) (by kernel_rfl) Tryz.underlying64 err_row Tryz.underlying174 Tryz.underlying176 rfl rfl Tryz.underlying9 (by kernel_rfl) (by kernel_rfl)
  have hm := cell_of_shapedOpen_int (P := Tryz.prog) (g := 1) (t := 3) (zero := #[.int .i64 0]) hsh (of_decide_eq_true (by kernel_rfl)) (by kernel_rfl) rfl (by kernel_rfl) (by kernel_rfl) Tryz.underlying3
  have hg7 : Tryz.prog.globalNamed "encoding/hex.ErrLength" = some 2 := by kernel_rfl
  exact ⟨tab, hm, ⟨_, _, v6⟩, ⟨_, _, v5⟩, ⟨_, World.var?_cell hg7 v7 0⟩⟩
theorem lt_len (o : So.Op) (h3 : -9223372036854775808 ≤ o.keep) (h4 : o.keep ≤ 9223372036854775807) : (lt o ++ [10]).length ≤ o.nm.size + 2 * o.dt.size + 40 := by
  have e1 : (nmL o).length = o.nm.size := size_data o.nm
  have e2 : (dtL o).length = o.dt.size := size_data o.dt
  have e3 := hx_len (dtL o)
  have e4 := Lib.itoa_length_le o.keep h3 h4
  have l1 : pW.length = 5 := rfl
  have l2 : pM.length = 6 := rfl
  have l3 : pR.length = 4 := rfl
  have l4 : pS.length = 4 := rfl
  have l5 : pC.length = 5 := rfl
  rw [List.length_append, List.length_singleton]
  unfold lt
  split
  · simp only [List.length_append, List.length_cons]; omega
  · split
    · simp only [List.length_append, List.length_cons]; omega
    · split
      · simp only [List.length_append, List.length_cons]; omega
      · split
        · omega
        · split
          · simp only [List.length_append, List.length_cons]; omega
          · simp
theorem txt_sum : ∀ l : List So.Op, (txt l).length = (l.map fun o => (lt o ++ [10]).length).sum
  | [] => rfl
  | o :: l => by
    have e : txt (o :: l) = (lt o ++ [10]) ++ txt l := by simp [txt]
    rw [e, List.length_append, List.map_cons, List.sum_cons, txt_sum l]
def firstCells : Array Value := (Pinned.utf8FirstZ.map fun (n : Nat) => Value.int .u8 (n : Int)).toArray
def layObj (cs : Array Value) : Obj → Obj
  | .cells _ t frozen => .cells cs t frozen
  | o => o
noncomputable def laidWorld (os : Os) : World :=
  { World.doorLaid Tryz.prog 91 os with heap := (World.doorLaid Tryz.prog 91 os).heap.modify 7 (layObj firstCells) }
noncomputable abbrev start (os : Os) : World := (laidWorld os).forCall (fun _ _ => 0) ⟨#[], #[.slice none 0 0], []⟩

set_option maxRecDepth 1000000 in
theorem bench_met (os : Os) : laidMet Tryz.prog Rows.topTextUptoRow.laid (start os).memory :=
  laidMet_of_run' 8 (by kernel_rfl) (by kernel_rfl)

theorem op_cells : Tryz.prog.cellsOf 53 = 4 := by kernel_rfl
theorem op_parse {H : Type} {enc : TypeId × Value → H} {w : World} {base : Nat} {spare : Nat → Bool} {held : Bool} (n : Nat) (cs : List Value) (y : DataW H × List MemPlace)
    (h : DataW.trod enc Tryz.prog w base spare held n 53 cs = some y) : ∃ x : So.Op, cs = x.cells ∧ (x.nm.size ≤ Rows.uptoBulk y.1 ∧ x.dt.size ≤ Rows.uptoBulk y.1 ∧ -9223372036854775808 ≤ x.keep ∧ x.keep ≤ 9223372036854775807) := by
  obtain ⟨hl, m, parts, hy, hf⟩ := parse_fields2 Tryz.underlying53 (by kernel_rfl) (by kernel_rfl) h
  obtain ⟨v0, z0, e0, t0, _⟩ := hf 0 _ rfl
  obtain ⟨v1, z1, e1, t1, m1⟩ := hf 1 _ rfl
  obtain ⟨v2, z2, e2, t2, m2⟩ := hf 2 _ rfl
  obtain ⟨v3, z3, e3, t3, _⟩ := hf 3 _ rfl
  obtain ⟨a, rfl, _⟩ := parse_int Tryz.underlying3 t0
  obtain ⟨b, hb, hz1, _⟩ := DataW.trod_string Tryz.underlying9 t1
  obtain ⟨c, hc, hz2, _⟩ := DataW.trod_string Tryz.underlying9 t2
  obtain ⟨d, rfl, wd⟩ := parse_int Tryz.underlying3 t3
  obtain rfl : v1 = .string b := by simpa using hb
  obtain rfl : v2 = .string c := by simpa using hc
  have b1 := bulk_agg hy m1
  have b2 := bulk_agg hy m2
  rw [hz1] at b1
  rw [hz2] at b2
  simp only [Rows.uptoBulk, size_data] at b1 b2
  have hd := i64_bounds wd
  match cs, hl with
  | [c0, c1, c2, c3], _ =>
    simp at e0 e1 e2 e3
    subst e0 e1 e2 e3
    exact ⟨⟨a, b, c, d⟩, rfl, by show b.size ≤ _; omega, by show c.size ≤ _; omega, hd.1, hd.2⟩

theorem bench_reads (os : Os) {H : Type} (enc : TypeId × Value → H) : ∃ places, DataW.whole enc Tryz.prog (start os).memory Tryz.f4.params.toList Rows.topTextSpec.vars false #[Value.slice none 0 0].toList 8 = some ([.nil], [], places) :=
  ⟨[], by kernel_rfl⟩
set_option maxRecDepth 1000000 in
theorem bench_lifted (os : Os) (started : os.Started) (H : Type) (enc : TypeId × Value → H) (F : Stop.Interp) :
    ReturnsInHanded {} Tryz.checked os 4 .any ((Rows.OpenSpec.upto Rows.topTextSpec).preRow enc Tryz.prog Tryz.f4 Rows.topTextUptoRow.domain false Rows.topTextUptoRow.laid) (((Rows.OpenSpec.upto Rows.topTextSpec).at F).post enc Tryz.prog Tryz.f4 false true false false) := by
  obtain ⟨places, hx⟩ := bench_reads os enc
  refine returnsInHanded_of_row (C := Tryz.checked) (s := Rows.OpenSpec.upto Rows.topTextSpec) own started (by kernel_rfl) Tryz.func4
    (witness_row_atRef (enc := enc) (C := Tryz.checked) false (laidWorld os) #[.slice none 0 0] rfl (by kernel_rfl) (by kernel_rfl) (by kernel_rfl)
      (OpenSpec.preRow_of_cond 8 hx (by kernel_rfl) (fun k hk => by cases hk; kernel_rfl) (by kernel_rfl) (bench_met os))) ?_
  intro W base args ds gs before hval0 hW _ hcond _ hL hsh _
  have hk : Rows.uptoSmall H (ds ++ gs) = true := hcond _ rfl
  have hval : ∀ (j : Nat) t v, Tryz.f4.params[j]? = some t → args[j]? = some v → Value.okWide Tryz.prog W .any base t v := hval0
  have hW0 := hW
  obtain ⟨p, q, hA0, hV, _, _, _⟩ := hW
  have hA : DataW.TrodAll enc Tryz.prog W 0 (fun _ => true) true Tryz.f4.params.toList args.toList ds p := hA0
  rw [Tryz.params4] at hA hval
  obtain ⟨v0, vs0, d0, ds0, p0, q0, hargs, rfl, rfl, h0, r0⟩ := trodAll_cons hA
  obtain ⟨rfl, rfl, rfl⟩ := trodAll_nil r0
  obtain rfl : args = #[v0] := by cases args; simp_all
  obtain ⟨fu0, hf0⟩ := h0
  obtain ⟨A, n, cap, l, hcs, hl, hnc, hcm, _, hrd, ys, hyl, hQ, hd⟩ := open_list3 So.Op.cells (fun x y => x.nm.size ≤ Rows.uptoBulk y ∧ x.dt.size ≤ Rows.uptoBulk y ∧ -9223372036854775808 ≤ x.keep ∧ x.keep ≤ 9223372036854775807) Tryz.underlying28 op_cells So.Op.len (by omega) op_parse hf0
  obtain rfl := slice_of hcs (okWide_slice Tryz.underlying28 (hval 0 _ v0 rfl rfl))
  have hb1 : Rows.uptoBulk d0 ≤ 1048576 := Nat.le_trans (bulk_part (by simp)) (bulk_bound hk)
  have hb2 : Rows.uptoBulkAll ys ≤ 1048576 := by
    rcases hd with ⟨_, h0⟩ | ⟨sp, hsp⟩
    · have : ys = [] := List.eq_nil_of_length_eq_zero (by omega)
      rw [this]
      simp [Rows.uptoBulkAll]
    · have h9 : Rows.uptoBulk d0 = Rows.uptoBulkAll ys + Rows.uptoBulkAll sp + 1 := by
        have hsp' : d0 = .slice ys sp := hsp
        rw [hsp']
        simp only [Rows.uptoBulk]
      omega
  have hn : n ≤ 1048576 := by have := bulk_len ys; omega
  have hok : ∀ o ∈ l, OkO o := fun o ho => by
    obtain ⟨i, hi, rfl⟩ := List.getElem_of_mem ho
    obtain ⟨y, hy, q1, q2, q3, q4⟩ := hQ i _ (List.getElem?_eq_getElem hi)
    have h9 : Rows.uptoBulk y ≤ Rows.uptoBulkAll ys := bulk_part (List.mem_of_getElem? hy)
    exact ⟨by omega, by omega, q3, q4⟩
  have ht : (txt l).length ≤ 67108865 := by
    rw [txt_sum]
    have h9 := bulk_sum (fun o : So.Op => (lt o ++ [10]).length) 3 40 (fun o y hq => by
      obtain ⟨q1, q2, q3, q4⟩ := hq
      have := lt_len o q3 q4
      show (lt o ++ [10]).length ≤ _
      omega) l ys (by rw [hyl, hl]) hQ
    omega
  have hw := So.topText_walk A n cap l W hrd hl (by omega) hok ht (gl_of hL hsh)
  refine hw.mono fun e W' ⟨he, hg⟩ => ⟨_, he, ?_⟩
  exact law_post laidOut Tryz.underlying4 rfl rfl (by kernel_rfl) (fun xs hx => by
    match xs, hx with
    | [_], _ => rfl) hW0 hg
theorem bench_said : Rows.TopTextUptoSaid :=
  OpenClaim.holds_of_cond 4 Tryz.f4 rfl rfl rfl rfl rfl rfl rfl ⟨rfl, rfl, rfl, rfl, rfl⟩ rfl rfl rfl rfl rfl (by kernel_rfl) Tryz.func4 (by kernel_rfl)
    (of_decide_eq_true (by kernel_rfl)) (by unfold Func.isWrapper; first | (rw [if_pos (by decide +kernel)]; kernel_rfl) | (rw [if_neg (by decide +kernel)]; exact ⟨rfl, rfl⟩))
    (fun os started H enc _ F => by rw [OpenClaim.pre_eq_preRow]; exact bench_lifted os started H enc F)
theorem bench_plain (f : FuncId) (fn : Func) (hf : Tryz.pinned.checked.prog.funcNamed "flintstore/flintstoretop.TopText" = some f) (hfn : Tryz.pinned.checked.prog.funcs[f]? = some fn) :
    true = Tryz.pinned.checked.prog.looks [] ∧ ∀ (j : Nat) t, fn.params[j]? = some t → Tryz.pinned.checked.prog.wantsStandIn t = false := by
  obtain rfl : f = 4 := Option.some.inj ((show Tryz.prog.funcNamed "flintstore/flintstoretop.TopText" = some 4 by kernel_rfl).symm.trans hf) |>.symm
  obtain rfl : fn = Tryz.f4 := (Option.some.inj (Tryz.func4.symm.trans hfn)).symm
  refine ⟨by kernel_rfl, fun j t ht => ?_⟩
  rw [Tryz.params4] at ht
  obtain rfl : t = 28 := by simpa using Array.mem_of_getElem? ht
  exact (show Tryz.prog.wantsStandIn 28 = false by kernel_rfl)
end Bn
theorem topText_holds : Rows.TopTextUptoCardSaid :=
  Claim7.holds_tied_plain_at .later [] _ _ _ _ Bn.bench_said (fun _ h => by cases h) (by kernel_rfl) (fun _ h => by cases h) topTextUpto_row_tie rfl ⟨rfl, rfl⟩ (by kernel_rfl) rfl Bn.bench_plain (by kernel_rfl)
end Go.Proofs.YtccpkkopniadiaaGreatDoor
