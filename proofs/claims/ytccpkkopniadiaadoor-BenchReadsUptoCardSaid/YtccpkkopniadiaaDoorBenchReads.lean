/-
  BenchReads: the bench's text is printed and read as the reference says, for operations and a text of together bulk at most 1048576 (the card of the second form). Conditions: the bulk; the listed tables and sentinels lie as the program's text lays them (tied).
-/
import Derived.Test.YtccpkkopniadiaaDoorBnE
import Derived.Test.YtccpkkopniadiaaDoorCards
import Derived.Test.YtccpkkopniadiaaDoorTie
import Derived.Test.YtccpkkopniadiaaDoorParse
import Derived.Test.YtccpkkopniadiaaDoorBulk2
import Derived.Deep.DeepHandedRow
import Derived.Deep.DeepWitnessRowRef
import Derived.Lib.LaidTab
import Derived.Stop.LaidErr
import Derived.Shelf.Vars
import Derived.LaidMore
namespace Go.Proofs.YtccpkkopniadiaaDoor
open Go.ChangeShapes Go.WideShapes Go.ChangeAt Go.RowKit
open Go.ChangeMaps (open_string shut_string)
set_option linter.unusedVariables false
namespace Bn

theorem star : "*" ++ "errors.errorString" = "*errors.errorString" := by decide
theorem err_row (u : TypeId) (h : Tryd.prog.typeName? 3 u = some "*errors.errorString") : u = 111 :=
  typeName_ptr_named (nm := "errors.errorString") (by rw [star]; kernel_rfl) (by kernel_rfl) (by decide) u (by rw [star]; exact h)
theorem pow_rfl : (Rows.laid_internal_strconv_uint64pow10 : DataW Unit) = Lib.tabData .u64 Lib.pow10Tab := by kernel_rfl
theorem gl_of {W : World} (hL : laidMet Tryd.prog Rows.benchReadsUptoRow.laid W) (hsh : W.ShapedOpen Tryd.prog) : Gl W := by
  have h2 := laidMet.tail (laidMet.tail hL)
  have h5 := laidMet.tail (laidMet.tail h2)
  have h6 := laidMet.tail h5
  have h7 := laidMet.tail h6
  have tab := Lib.tabIs_of_head (k := .u64) (zs := Lib.pow10Tab) (g := 2) (t := 98) (e := 57) (n := 20) (by kernel_rfl) (by kernel_rfl) (by kernel_rfl) (by kernel_rfl) (by kernel_rfl) (by kernel_rfl) (pow_rfl ▸ h2)
  obtain ⟨a5, s5, v5, _⟩ := laid_sentinel (g := 4) (ti := 39) (ts := 9) h5 (by kernel_rfl) (by kernel_rfl) Tryd.underlying39 err_row Tryd.underlying111 Tryd.underlying113 rfl rfl Tryd.underlying9 (by kernel_rfl) (by kernel_rfl)
  obtain ⟨a6, s6, v6, _⟩ := laid_sentinel (g := 3) (ti := 39) (ts := 9) h6 (by kernel_rfl) (by kernel_rfl) Tryd.underlying39 err_row Tryd.underlying111 Tryd.underlying113 rfl rfl Tryd.underlying9 (by kernel_rfl) (by kernel_rfl)
  obtain ⟨a7, s7, v7, _⟩ := laid_sentinel (g := 1) (ti := 39) (ts := 9) h7 (by kernel_rfl) (by kernel_rfl) Tryd.underlying39 err_row Tryd.underlying111 Tryd.underlying113 rfl rfl Tryd.underlying9 (by kernel_rfl) (by kernel_rfl)
  have hm := cell_of_shapedOpen_int (P := Tryd.prog) (g := 0) (t := 3) (zero := #[.int .i64 0]) hsh (of_decide_eq_true (by kernel_rfl)) (by kernel_rfl) rfl (by kernel_rfl) (by kernel_rfl) Tryd.underlying3
  have hg7 : Tryd.prog.globalNamed "encoding/hex.ErrLength" = some 1 := by kernel_rfl
  exact ⟨tab, hm, ⟨_, _, v6⟩, ⟨_, _, v5⟩, ⟨_, World.var?_cell hg7 v7 0⟩⟩
theorem lt_len (o : So.Op) (h : OkO o) : (lt o ++ [10]).length ≤ 3145800 := by
  obtain ⟨h1, h2, h3, h4⟩ := h
  have e1 : (nmL o).length = o.nm.size := size_data o.nm
  have e2 : (dtL o).length = o.dt.size := size_data o.dt
  have e3 := hx_len (dtL o)
  have e4 := Lib.itoa_length_le o.keep h3 h4
  have l1 : pW.length = 5 := rfl
  have l2 : pM.length = 6 := rfl
  have l3 : pR.length = 4 := rfl
  have l4 : pS.length = 4 := rfl
  have l5 : pC.length = 5 := rfl
  rw [List.length_append, List.length_singleton]
  unfold lt
  split
  · simp only [List.length_append, List.length_cons]; omega
  · split
    · simp only [List.length_append, List.length_cons]; omega
    · split
      · simp only [List.length_append, List.length_cons]; omega
      · split
        · omega
        · split
          · simp only [List.length_append, List.length_cons]; omega
          · simp
theorem txt_len : ∀ l : List So.Op, (∀ o ∈ l, OkO o) → (txt l).length ≤ 3145800 * l.length
  | [], _ => Nat.le_refl _
  | o :: l, h => by
    have h1 := lt_len o (h o (by simp))
    have h2 := txt_len l (fun o' ho => h o' (by simp [ho]))
    have e : txt (o :: l) = (lt o ++ [10]) ++ txt l := by simp [txt]
    rw [e, List.length_append, List.length_cons]
    omega

def firstCells : Array Value := (Pinned.utf8FirstZ.map fun (n : Nat) => Value.int .u8 (n : Int)).toArray
def layObj (cs : Array Value) : Obj → Obj
  | .cells _ t frozen => .cells cs t frozen
  | o => o
noncomputable def laidWorld (os : Os) : World :=
  { World.doorLaid Tryd.prog 91 os with heap := (World.doorLaid Tryd.prog 91 os).heap.modify 5 (layObj firstCells) }
noncomputable abbrev start (os : Os) : World := (laidWorld os).forCall (fun _ _ => 0) ⟨#[], #[.slice none 0 0, .string ⟨#[]⟩], []⟩

set_option maxRecDepth 1000000 in
theorem bench_met (os : Os) : laidMet Tryd.prog Rows.benchReadsUptoRow.laid (start os).memory :=
  laidMet_of_run' 8 (by kernel_rfl) (by kernel_rfl)

theorem op_cells : Tryd.prog.cellsOf 30 = 4 := by kernel_rfl
theorem op_parse {H : Type} {enc : TypeId × Value → H} {w : World} {base : Nat} {spare : Nat → Bool} {held : Bool} (n : Nat) (cs : List Value) (y : DataW H × List MemPlace)
    (h : DataW.trod enc Tryd.prog w base spare held n 30 cs = some y) : ∃ x : So.Op, cs = x.cells ∧ (x.nm.size ≤ Rows.uptoBulk y.1 ∧ x.dt.size ≤ Rows.uptoBulk y.1 ∧ -9223372036854775808 ≤ x.keep ∧ x.keep ≤ 9223372036854775807) := by
  obtain ⟨hl, m, parts, hy, hf⟩ := parse_fields2 Tryd.underlying30 (by kernel_rfl) (by kernel_rfl) h
  obtain ⟨v0, z0, e0, t0, _⟩ := hf 0 _ rfl
  obtain ⟨v1, z1, e1, t1, m1⟩ := hf 1 _ rfl
  obtain ⟨v2, z2, e2, t2, m2⟩ := hf 2 _ rfl
  obtain ⟨v3, z3, e3, t3, _⟩ := hf 3 _ rfl
  obtain ⟨a, rfl, _⟩ := parse_int Tryd.underlying3 t0
  obtain ⟨b, hb, hz1, _⟩ := DataW.trod_string Tryd.underlying9 t1
  obtain ⟨c, hc, hz2, _⟩ := DataW.trod_string Tryd.underlying9 t2
  obtain ⟨d, rfl, wd⟩ := parse_int Tryd.underlying3 t3
  obtain rfl : v1 = .string b := by simpa using hb
  obtain rfl : v2 = .string c := by simpa using hc
  have b1 := bulk_agg hy m1
  have b2 := bulk_agg hy m2
  rw [hz1] at b1
  rw [hz2] at b2
  simp only [Rows.uptoBulk, size_data] at b1 b2
  have hd := i64_bounds wd
  match cs, hl with
  | [c0, c1, c2, c3], _ =>
    simp at e0 e1 e2 e3
    subst e0 e1 e2 e3
    exact ⟨⟨a, b, c, d⟩, rfl, by show b.size ≤ _; omega, by show c.size ≤ _; omega, hd.1, hd.2⟩

theorem bench_reads (os : Os) {H : Type} (enc : TypeId × Value → H) : ∃ places, DataW.whole enc Tryd.prog (start os).memory Tryd.f3.params.toList Rows.benchReadsSpec.vars false #[Value.slice none 0 0, Value.string ⟨#[]⟩].toList 8 = some ([.nil, .lit (.string [])], [], places) :=
  ⟨[], by kernel_rfl⟩
set_option maxRecDepth 1000000 in
theorem bench_lifted (os : Os) (started : os.Started) (H : Type) (enc : TypeId × Value → H) (F : Stop.Interp) :
    ReturnsInHanded {} Tryd.checked os 3 .any ((Rows.OpenSpec.upto Rows.benchReadsSpec).preRow enc Tryd.prog Tryd.f3 Rows.benchReadsUptoRow.domain false Rows.benchReadsUptoRow.laid) (((Rows.OpenSpec.upto Rows.benchReadsSpec).at F).post enc Tryd.prog Tryd.f3 false true false false) := by
  obtain ⟨places, hx⟩ := bench_reads os enc
  refine returnsInHanded_of_row (C := Tryd.checked) (s := Rows.OpenSpec.upto Rows.benchReadsSpec) own started (by kernel_rfl) Tryd.func3
    (witness_row_atRef (enc := enc) (C := Tryd.checked) false (laidWorld os) #[.slice none 0 0, .string ⟨#[]⟩] rfl (by kernel_rfl) (by kernel_rfl) (by kernel_rfl)
      (OpenSpec.preRow_of_cond 8 hx (by kernel_rfl) (fun k hk => by cases hk; kernel_rfl) (by kernel_rfl) (bench_met os))) ?_
  intro W base args ds gs before hval0 hW _ hcond _ hL hsh _
  have hk : Rows.uptoSmall H (ds ++ gs) = true := hcond _ rfl
  have hval : ∀ (j : Nat) t v, Tryd.f3.params[j]? = some t → args[j]? = some v → Value.okWide Tryd.prog W .any base t v := hval0
  have hW0 := hW
  obtain ⟨p, q, hA0, hV, _, _, _⟩ := hW
  have hA : DataW.TrodAll enc Tryd.prog W 0 (fun _ => true) true Tryd.f3.params.toList args.toList ds p := hA0
  rw [Tryd.params3] at hA hval
  obtain ⟨v0, vs0, d0, ds0, p0, q0, hargs, rfl, rfl, h0, r0⟩ := trodAll_cons hA
  obtain ⟨v1, vs1, d1, ds1, p1, q1, rfl, rfl, rfl, h1, r1⟩ := trodAll_cons r0
  obtain ⟨rfl, rfl, rfl⟩ := trodAll_nil r1
  obtain rfl : args = #[v0, v1] := by cases args; simp_all
  obtain ⟨fu0, hf0⟩ := h0
  obtain ⟨A, n, cap, l, hcs, hl, hnc, hcm, _, hrd, hQ, hd⟩ := open_list2 So.Op.cells (fun x y => x.nm.size ≤ Rows.uptoBulk y ∧ x.dt.size ≤ Rows.uptoBulk y ∧ -9223372036854775808 ≤ x.keep ∧ x.keep ≤ 9223372036854775807) Tryd.underlying22 op_cells So.Op.len (by omega) op_parse hf0
  obtain rfl := slice_of hcs (okWide_slice Tryd.underlying22 (hval 0 _ v0 rfl rfl))
  obtain ⟨s, rfl, rfl, rfl, hmax⟩ := open_string Tryd.underlying9 (hval 1 _ v1 rfl rfl) h1
  have hn := bulk_slice hk (by simp) hd
  have hb1 : Rows.uptoBulk d0 ≤ 1048576 := Nat.le_trans (bulk_part (by simp)) (bulk_bound hk)
  have hb2 : Rows.uptoBulk (.lit (.string s.data.toList) : DataW H) ≤ 1048576 := Nat.le_trans (bulk_part (by simp)) (bulk_bound hk)
  simp only [Rows.uptoBulk] at hb2
  have hok : ∀ o ∈ l, OkO o := fun o ho => by
    obtain ⟨y, ⟨q1, q2, q3, q4⟩, hy⟩ := hQ o ho
    have h9 : Rows.uptoBulk y ≤ Rows.uptoBulk d0 := bulk_elem hy
    exact ⟨by omega, by omega, q3, q4⟩
  have ht := txt_len l hok
  rw [hl] at ht
  have hw := benchReads_walk A n cap l W hrd hl (by omega) hok (by have : 3145800 * n ≤ 3145800 * 1048576 := Nat.mul_le_mul_left _ hn; omega) s.data.toList s (bs_of s) (by omega) (gl_of hL hsh)
  refine hw.mono fun e W' ⟨he, hg⟩ => ⟨_, he, ?_⟩
  exact law_post laidOut Tryd.underlying4 rfl rfl (by kernel_rfl) (fun xs hx => by
    match xs, hx with
    | [_, _], _ => rfl) hW0 hg
theorem bench_said : Rows.BenchReadsUptoSaid :=
  OpenClaim.holds_of_cond 3 Tryd.f3 rfl rfl rfl rfl rfl rfl rfl ⟨rfl, rfl, rfl, rfl, rfl⟩ rfl rfl rfl rfl rfl (by kernel_rfl) Tryd.func3 (by kernel_rfl)
    (of_decide_eq_true (by kernel_rfl)) (by unfold Func.isWrapper; first | (rw [if_pos (by decide +kernel)]; kernel_rfl) | (rw [if_neg (by decide +kernel)]; exact ⟨rfl, rfl⟩))
    (fun os started H enc _ F => by rw [OpenClaim.pre_eq_preRow]; exact bench_lifted os started H enc F)
theorem bench_plain (f : FuncId) (fn : Func) (hf : Tryd.pinned.checked.prog.funcNamed "flintstore/flintstorelaw.BenchReads" = some f) (hfn : Tryd.pinned.checked.prog.funcs[f]? = some fn) :
    true = Tryd.pinned.checked.prog.looks [] ∧ ∀ (j : Nat) t, fn.params[j]? = some t → Tryd.pinned.checked.prog.wantsStandIn t = false := by
  obtain rfl : f = 3 := Option.some.inj ((show Tryd.prog.funcNamed "flintstore/flintstorelaw.BenchReads" = some 3 by kernel_rfl).symm.trans hf) |>.symm
  obtain rfl : fn = Tryd.f3 := (Option.some.inj (Tryd.func3.symm.trans hfn)).symm
  refine ⟨by kernel_rfl, fun j t ht => ?_⟩
  rw [Tryd.params3] at ht
  have hm : t = 22 ∨ t = 9 := by simpa using Array.mem_of_getElem? ht
  rcases hm with rfl | rfl
  · exact (show Tryd.prog.wantsStandIn 22 = false by kernel_rfl)
  · exact (show Tryd.prog.wantsStandIn 9 = false by kernel_rfl)
end Bn
theorem benchReads_holds : Rows.BenchReadsUptoCardSaid :=
  Claim7.holds_tied_plain_at .later [] _ _ _ _ Bn.bench_said (fun _ h => by cases h) (by kernel_rfl) (fun _ h => by cases h) benchReadsUpto_row_tie rfl ⟨rfl, rfl⟩ (by kernel_rfl) rfl Bn.bench_plain (by kernel_rfl)
end Go.Proofs.YtccpkkopniadiaaDoor
