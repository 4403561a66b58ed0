/-
  Walk of bench.Print. Conditions: none beyond each theorem's own premises.
-/
import Derived.Test.YtccpkkopniadiaaGreatDoorBnPo
import Derived.Test.YtccpkkopniadiaaGreatDoorShelfNb
import Derived.Test.YtccpkkopniadiaaGreatDoorShelfNw
namespace Go.Proofs.YtccpkkopniadiaaGreatDoor
open Go.RowKit Go.Shelf Go.Sort
set_option linter.unusedVariables false
namespace Bn
open So (Op.len Op.cells)

theorem builder_later {T e : TypeId} {B b : Nat} {xs : List Value} {w w' : World} (h : Lib.IsBuilderF T e B b xs w) (hb : Below w.heap.size w w') : Lib.IsBuilderF T e B b xs w' := by
  have one : ∀ p, Lib.BuilderAtF T e B b p xs w → Lib.BuilderAtF T e B b p xs w' := fun p h => by
    obtain ⟨hB, v, hh, hown, hne⟩ := h
    refine ⟨hB, v, (hb.block b (Array.getElem?_eq_some_iff.1 hh).1).trans hh, hown.kept (grown_of_below hb) ?_, hne⟩
    cases v.ownBlock with
    | none => exact .inl rfl
    | some g => exact .inr (by simp)
  exact h.elim (fun x => .inl (one _ x)) (fun x => .inr (one _ x))
set_option maxRecDepth 100000 in
theorem extraW : Builder.Extra Tryz.prog Tryz.bWrite_ren where
  sizeBuilder := by kernel_rfl
  liesBuilder := by kernel_rfl
  t5 := Tryz.underlying5
  a5 := Tryz.isAgg5
  z5 := Tryz.sizeOf5
  v5 := Tryz.zeroValue5
  infoByte := by kernel_rfl
  cellsByte := by kernel_rfl
  sizeByte := by kernel_rfl
  neB5 := by decide
set_option maxRecDepth 100000 in
theorem extraS : Builder.Extra Tryz.prog Tryz.bStr_ren where
  sizeBuilder := by kernel_rfl
  liesBuilder := by kernel_rfl
  t5 := Tryz.underlying5
  a5 := Tryz.isAgg5
  z5 := Tryz.sizeOf5
  v5 := Tryz.zeroValue5
  infoByte := by kernel_rfl
  cellsByte := by kernel_rfl
  sizeByte := by kernel_rfl
  neB5 := by decide

theorem byteCells_app (a b : By) : Lib.byteCells (a ++ b) = Lib.byteCells a ++ Lib.byteCells b := by simp [Lib.byteCells]
theorem strCells_bs (x : By) : Lib.strCells (bs x) = Lib.byteCells x := by simp [Lib.strCells, Lib.byteCells, bs]
theorem builder_new (w : World) : Lib.IsBuilderF 60 5 w.heap.size w.heap.size (Lib.byteCells []) (w.alloc (.cells #[.pointer none, .slice none 0 0] 60)) :=
  .inl ⟨Nat.le_refl _, .slice none 0 0, heap_alloc_new w _, World.ownsRowF_nil _ _ _ _, by simp [Value.ownBlock]⟩

set_option maxRecDepth 100000 in
set_option maxHeartbeats 1600000 in
theorem print_any (A : Option Addr) (n c : Nat) (l : List So.Op) (w : World) (hr : Rd w w.heap.size 4 A n (l.flatMap So.Op.cells)) (hl : l.length = n) (hn : n ≤ 67108865) (hok : ∀ o ∈ l, OkO o) (ht : (txt l).length ≤ 10000000000000) (hg : Gl w) :
    Calls Tryz.prog 10 #[.slice A n c] w (Ret w (printR l)) := by
  have HR := Lib.hid hr
  have HL := Lib.hid hl
  have HOK := Lib.hid hok
  have HT : Hid (∀ k, (txt (l.take k)).length ≤ 10000000000000) := Lib.hid (fun k => Nat.le_trans (txt_le l k) ht)
  have HG := Lib.hid hg
  have HB0 := Lib.hid ((Below.refl w.heap.size w).alloc (Nat.le_refl _) (.cells #[.pointer none, .slice none 0 0] 60))
  have HN0 := Lib.hid (builder_new w)
  clear hr hl hok ht hg
  go_enter Tryz.func10, Tryz.ntmps10
  go_wp2
  generalize w.alloc (.cells #[.pointer none, .slice none 0 0] 60) = w0 at HB0 HN0 ⊢
  obtain ⟨gb, hgb⟩ : ∃ gb, w.heap.size = gb := ⟨_, rfl⟩
  have HGB := Lib.hid hgb
  rw [hgb] at HN0 ⊢
  clear hgb
  go_loopg [11] n (fun g i wr => ∃ k : Nat, k ≤ n ∧ g = n - k ∧ i = .int .i64 k ∧ Hid ((l.take k).all lk = true) ∧ Hid (Lib.IsBuilderF 60 5 gb gb (Lib.byteCells (txt (l.take k))) wr) ∧ Below w.heap.size w wr)
  case atStart => exact ⟨0, Nat.zero_le _, rfl, rfl, Lib.hid rfl, HN0, HB0.out⟩
  case round =>
    clear HN0 HB0
    obtain ⟨k, hk, rfl, rfl, HA, HN, hB⟩ := hrel
    have HB := Lib.hid hB
    clear hB
    by_cases hlt : k < n
    · obtain ⟨b, off, rfl, hb, hc⟩ := HR.out.at_ So.Op.len (by omega)
      obtain ⟨o, ho⟩ : ∃ o, l[k]? = some o := ⟨_, List.getElem?_eq_getElem (by rw [HL.out]; exact hlt)⟩
      have q0 : wr.cell? ⟨b, off + k * 4, none⟩ = some (.int .i64 o.kind) := (HB.out.cell hb).trans (hc k 0 o _ ho rfl)
      have q1 : wr.cell? ⟨b, off + k * 4 + 1, none⟩ = some (.string o.nm) := (HB.out.cell hb).trans (hc k 1 o _ ho rfl)
      have q2 : wr.cell? ⟨b, off + k * 4 + 2, none⟩ = some (.string o.dt) := (HB.out.cell hb).trans (hc k 2 o _ ho rfl)
      have q3 : wr.cell? ⟨b, off + k * 4 + 3, none⟩ = some (.int .i64 o.keep) := (HB.out.cell hb).trans (hc k 3 o _ ho rfl)
      have i0 : (0 : Int) ≤ (k : Int) := by omega
      have i1 : (k : Int) < (n : Int) := by omega
      have hoo := HOK.out o (List.mem_of_getElem? ho)
      have HO := Lib.hid ho
      have HB2 := Lib.hid (HB.out.trans (((Below.refl wr.heap.size wr).alloc (Nat.le_refl _) (.cells #[.int .i64 o.kind, .string o.nm, .string o.dt, .int .i64 o.keep] 53)).mono HB.out.size))
      have e0 := (Blk.new wr 53 o.cells).cell (k := 0) rfl
      have e1 := (Blk.new wr 53 o.cells).cell (k := 1) rfl
      have e2 := (Blk.new wr 53 o.cells).cell (k := 2) rfl
      have e3 := (Blk.new wr 53 o.cells).cell (k := 3) rfl
      simp only [So.Op.cells] at e0 e1 e2 e3
      have HW1 := Lib.hid ((Below.refl wr.heap.size wr).alloc (Nat.le_refl _) (.cells #[.int .i64 o.kind, .string o.nm, .string o.dt, .int .i64 o.keep] 53))
      clear hc ho
      go_upto_region 5 with (fail)
      clear q0 q1 q2 q3
      generalize wr.alloc (.cells #[.int .i64 o.kind, .string o.nm, .string o.dt, .int .i64 o.keep] 53) = wo at e0 e1 e2 e3 HB2 HW1 ⊢
      generalize wr.heap.size = gx at e0 e1 e2 e3 ⊢
      have HNa := Lib.hid (builder_later HN.out HW1.out)
      have cL := Lib.hid (line_any o.kind o.nm.data.toList o.dt.data.toList o.keep o.nm o.dt (bs_of _) (bs_of _) (by rw [size_data]; exact hoo.1) (by rw [size_data]; exact hoo.2.1) hoo.2.2.1 hoo.2.2.2 wo (HG.out.later HB2.out))
      clear hoo HN HW1
      go_wp2_with fail
      refine cL.out.mono ?_; rintro en w1 ⟨rfl, hb1⟩
      have HB3 := Lib.hid (HB2.out.trans (hb1.mono HB2.out.size))
      have HN := Lib.hid (builder_later HNa.out hb1)
      clear hb1 cL e0 e1 e2 e3 HB2 HNa
      unfold LineR
      obtain ⟨lv, hlv⟩ : ∃ lv, lk ⟨o.kind, o.nm, o.dt, o.keep⟩ = lv := ⟨_, rfl⟩
      have HLV : Hid (lk o = lv) := Lib.hid hlv
      rw [hlv]
      have hz := HT.out (k + 1)
      rw [txt_step HO.out, List.length_append, List.length_append] at hz
      obtain ⟨LB, hLB⟩ : ∃ LB, bs (lt ⟨o.kind, o.nm, o.dt, o.keep⟩) = LB := ⟨_, rfl⟩
      have z0 : LB.size = (lt o).length := by rw [← hLB]; exact bs_size _
      have z1 : LB.size + 1 ≤ 9223372036854775807 := by omega
      have HLB : Hid (LB ++ ⟨#[10]⟩ = bs (lt o ++ [10])) := Lib.hid (by
        have e : (⟨#[10]⟩ : ByteArray) = bs [10] := rfl
        rw [e, ← hLB, bs_cat])
      rw [hLB]
      have hbl : (Lib.byteCells (txt (l.take k))).length = (txt (l.take k)).length := by simp [Lib.byteCells]
      have hBw : gb ≤ w1.heap.size := by rw [← HGB.out]; exact HB3.out.size
      have cB := Lib.hid (Any.Builder_WriteString_k Tryz.bWrite extraW gb gb (Lib.byteCells (txt (l.take k))) (LB ++ ⟨#[10]⟩) w1 HN.out (by rw [HLB.out, bs_size, hbl, List.length_append]; omega) hBw)
      have HCE : Hid (Lib.byteCells (txt (l.take k)) ++ Lib.strCells (LB ++ ⟨#[10]⟩) = Lib.byteCells (txt (l.take (k + 1)))) := Lib.hid (by rw [HLB.out, strCells_bs, ← byteCells_app, txt_step HO.out])
      clear hlv hz hLB z0 hbl
      cases lv with
      | false =>
        have HP : Hid (printR l = .tuple #[.string ⟨#[]⟩, .int .i64 2]) := Lib.hid (if_neg (not_all HO.out HLV.out))
        go_wp2
        refine bodyPost_ret (v := printR l) (by rw [HP.out]; simp [results, Tryz.results10]) rfl ?_
        exact Ret.mk rfl HB3.out
      | true =>
        have HA2 := Lib.hid (all_take HO.out HLV.out HA.out)
        go_wp2_with fail
        refine cB.out.mono ?_; rintro en w2 ⟨rfl, hba, hb2, _⟩
        have HN2 : Hid (Lib.IsBuilderF 60 5 gb gb (Lib.byteCells (txt (l.take (k + 1)))) w2) := Lib.hid (by rw [← HCE.out]; exact .inr hba)
        have HB4 := Lib.hid (HB3.out.trans (by rw [HGB.out]; exact hb2))
        clear hba hb2 cB HN HB3
        go_wp2
        go_roundg (n - (k + 1))
        case measure => omega
        case rel => exact ⟨k + 1, by omega, rfl, by go_num, HA2, HN2, HB4.out⟩
    · obtain rfl : k = n := by omega
      have HTK : Hid (l.take k = l) := Lib.hid (List.take_of_length_le (by rw [HL.out]; exact Nat.le_refl _))
      have HP : Hid (printR l = .tuple #[.string (bs (txt (l.take k))), .int .i64 0]) := Lib.hid (by
        have ha := HA.out
        rw [HTK.out] at ha ⊢
        exact if_pos ha)
      have hBw : gb ≤ wr.heap.size := by rw [← HGB.out]; exact HB.out.size
      have cB := Lib.hid (Any.Builder_String_any_k Tryz.bStr extraS gb gb (txt (l.take k)) wr HN.out hBw)
      go_wp2_with fail
      refine cB.out.mono ?_; rintro en w2 ⟨rfl, _, hb2, _⟩
      have HB4 := Lib.hid (HB.out.trans (by rw [HGB.out]; exact hb2))
      clear hb2 cB
      go_wp2
      refine bodyPost_ret (v := printR l) (by rw [HP.out]; simp [results, Tryz.results10]; rfl) rfl ?_
      exact Ret.mk rfl HB4.out
end Bn
end Go.Proofs.YtccpkkopniadiaaGreatDoor
