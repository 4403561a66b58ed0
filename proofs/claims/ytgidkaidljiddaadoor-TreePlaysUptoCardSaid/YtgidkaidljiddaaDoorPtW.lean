/-
  Paths: walk of what strings.SplitSeq hands on at the separator '/'. Conditions: none beyond each theorem's own premises.
-/
import Derived.Test.YtgidkaidljiddaaDoorPtM
import Derived.Test.YtgidkaidljiddaaDoorPtR
import Derived.Test.YtgidkaidljiddaaDoorShelfP
import Derived.Test.YtgidkaidljiddaaDoorStrB
namespace Go.Proofs.YtgidkaidljiddaaDoor
open Go.RowKit Go.Shelf
set_option linter.unusedVariables false
attribute [local go_sem] Oper.semAt_some
namespace Pt

/-- the string of these bytes -/
def bs (x : By) : ByteArray := ⟨x.toArray⟩
theorem bs_data (x : By) : (bs x).data.toList = x := by simp [bs]
theorem bs_size (x : By) : (bs x).size = x.length := by simp [bs, ByteArray.size]
theorem bs_of (s : ByteArray) : bs s.data.toList = s := by simp [bs]
theorem bs_toList (x : By) : (bs x).toList = x := by rw [ByteArray.toList_eq]; exact bs_data x
theorem bs_inj {x y : By} (h : bs x = bs y) : x = y := by rw [← bs_data x, ← bs_data y, h]
theorem bs_ext (s : ByteArray) (x : By) (i j : Nat) (h : (s.data.toList.take j).drop i = x) : s.extract i j = bs x := by
  apply ByteArray.ext
  apply Array.ext'
  rw [ByteArray.data_extract]
  simp [bs, ← h, List.drop_take]
theorem slice_to (x t : By) (W : World) : (Instr.slice 9 (.string (bs (x ++ 47 :: t))) none (some (.int .i64 (x.length : Int))) none).run Tryd.prog W = .ok (.string (bs x)) W := by
  rw [run_slice_string_h W 9 _ Tryd.underlying9 .i64 (x.length : Int) (by omega) (by rw [bs_size]; simp; omega)]
  rw [bs_ext _ x 0 _ (by rw [bs_data]; simp)]
theorem slice_from (x t : By) (W : World) : (Instr.slice 9 (.string (bs (x ++ 47 :: t))) (some (.int .i64 ((x.length : Int) + 1))) none none).run Tryd.prog W = .ok (.string (bs t)) W := by
  rw [run_slice_string_l W 9 _ Tryd.underlying9 .i64 ((x.length : Int) + 1) (by omega) (by rw [bs_size]; simp; omega)]
  rw [bs_ext _ t _ _ (by
    rw [bs_data, bs_size, List.take_of_length_le (Nat.le_refl _)]
    have e : ((x.length : Int) + 1).toNat = x.length + 1 := by omega
    rw [e]
    simp)]

def lenAt (W : World) (b : Nat) : Nat := match W.cell? ⟨b, 0, none⟩ with
  | some (.string s) => s.size
  | _ => 0
theorem lenAt_eq {W : World} {b : Nat} {x : By} (h : W.cell? ⟨b, 0, none⟩ = some (.string (bs x))) : lenAt W b = x.length := by
  unfold lenAt
  rw [h]
  exact bs_size x

set_option maxRecDepth 100000 in
set_option maxHeartbeats 1600000 in
theorem split1_any (m l gs gp gv B : Nat) (hm : 1 ≤ m) (hgs : gs < B) (I J : List By → World → Prop) (hJI : ∀ pre U, J pre U → I pre U)
    (hJJ : ∀ pre U U', J pre U → I pre U' → (∀ k, B ≤ k → U'.heap[k]? = U.heap[k]?) → J pre U')
    (hIs : ∀ pre U x, I pre U → I pre (U.setCell ⟨gs, 0, none⟩ (.string (bs x)))) (s : By) (hs : s.length ≤ 1048577) (hne : gs ≠ gp ∧ gs ≠ gv)
    (hY : ∀ pre x U, J pre U → pre.length < (spl s).length → YieldAt Fence.wide (m - 1) Tryd.prog l #[.string (bs x)] U fun e U' => e = .returned (.bool true) ∧ J (pre ++ [x]) U' ∧ ∀ k, (k = gs ∨ k = gp ∨ k = gv) → U'.heap[k]? = U.heap[k]?)
    (w : World) (h0 : J [] w) (hS : Blk w gs 9 [.string (bs s)]) (hP : Blk w gp 9 [.string ⟨#[47]⟩]) (hV : Blk w gv 3 [.int .i64 0]) :
    CallsIn Fence.wide m Tryd.prog 66 #[.func (.yield l) #[] #[], .pointer (some ⟨gp, 0, none⟩), .pointer (some ⟨gs, 0, none⟩), .pointer (some ⟨gv, 0, none⟩)] w fun e u => (∃ v, e = .returned v) ∧ J (spl s) u := by
  have cI : ∀ (x : By) (W : World), CallsIn Fence.wide (m - 1) Tryd.prog 68 #[.string (bs x), .string ⟨#[47]⟩] W fun e w' => e = .returned (.int .i64 (Lib.indexByte x 47)) ∧ w' = W := fun x W => by
    have h := Any.strings_Index_one Tryd.index (bs x) 47 W
    rw [bs_data] at h
    exact callsIn_wide.2 h
  have p0 := hP.cell (k := 0) rfl
  have v0 := hV.cell (k := 0) rfl
  refine callsIn_of_wp Tryd.func66 rfl trivial ?_ rfl
  simp only [Tryd.ntmps66, List.size_toArray, List.length_cons, List.length_nil, Nat.reduceAdd, Nat.reduceSub, Array.replicate_succ, Array.replicate_zero, List.push_toArray, List.append_toArray, List.nil_append, List.cons_append]
  gi_wp2
  gi_loopw [7] (fun i wr => ∃ (pre : List By) (rest : By), spl s = pre ++ spl rest ∧ rest.length ≤ 1048577 ∧ J pre wr ∧ Blk wr gs 9 [.string (bs rest)] ∧ Blk wr gp 9 [.string ⟨#[47]⟩] ∧ Blk wr gv 3 [.int .i64 0])
    (fun _ wr => lenAt wr gs)
  case atStart => exact ⟨[], s, rfl, hs, h0, hS, hP, hV⟩
  case round =>
    clear p0 v0
    obtain ⟨pre, rest, hspl, hrl, hJs, hS, hP, hV⟩ := hrel
    have s0 := hS.cell (k := 0) rfl
    have p0 := hP.cell (k := 0) rfl
    have v0 := hV.cell (k := 0) rfl
    have hlt : pre.length < (spl s).length := by
      rw [hspl, List.length_append]
      obtain ⟨x, r, hx⟩ := spl_ne rest
      rw [hx]; simp
    have cR := cI rest wr
    by_cases hneg : Lib.indexByte rest 47 < 0
    · obtain ⟨iv, hiv⟩ : ∃ iv, Lib.indexByte rest 47 = iv := ⟨_, rfl⟩
      have hno := index_none rest hneg
      rw [hiv] at hneg cR
      obtain ⟨fn, tmps, assign, body, hy, hR⟩ := hY pre rest wr hJs hlt
      gi_wp2_with (refine ⟨trivial, ?_⟩; gi_at_call 68; refine cR.mono ?_; rintro e w' ⟨rfl, rfl⟩)
      refine hR.mono ?_
      rintro e W3 ⟨rfl, hJ3, hk3⟩
      gi_wp2
      go_end0
      rw [hspl, spl_none rest hno]
      exact ⟨⟨_, rfl⟩, hJ3⟩
    · obtain ⟨i, x, t, hi, rfl, hxi, hxn⟩ := index_some rest (by omega)
      rw [hi] at cR
      rw [spl_cut x t hxn] at hspl
      obtain ⟨fn, tmps, assign, body, hy, hR⟩ := hY pre x wr hJs hlt
      have i0 : ¬ ((i : Int) < 0) := by omega
      have i1 : i ≤ 1048577 := by simp at hrl; omega
      have q1 := slice_to x t
      rw [hxi] at q1
      have q2 := slice_from x t
      rw [hxi] at q2
      clear hneg hi
      gi_wp2_with (refine ⟨trivial, ?_⟩; gi_at_call 68; refine cR.mono ?_; rintro e w' ⟨rfl, rfl⟩)
      refine hR.mono ?_
      rintro e W3 ⟨rfl, hJ3, hk3⟩
      have hS3 : Blk W3 gs 9 [.string (bs (x ++ 47 :: t))] := (hk3 gs (.inl rfl)).trans hS
      have hP3 : Blk W3 gp 9 [.string ⟨#[47]⟩] := (hk3 gp (.inr (.inl rfl))).trans hP
      have hV3 : Blk W3 gv 3 [.int .i64 0] := (hk3 gv (.inr (.inr rfl))).trans hV
      have s3 := hS3.cell (k := 0) rfl
      have u3 := hS3.froz (k := 0)
      have p3 := hP3.cell (k := 0) rfl
      gi_wp2
      go_roundw
      case rel =>
        refine ⟨pre ++ [x], t, by rw [hspl]; simp, by simp at hrl; omega, ?_, ?_, ?_, ?_⟩
        · exact hJJ _ _ _ hJ3 (hIs _ _ _ (hJI _ _ hJ3)) (fun k hk => Below.heap_setCell _ _ _ _ (by simp only; omega))
        · exact hS3.set (k := 0) _
        · exact (Below.heap_setCell _ _ _ _ (by simp only; omega)).trans hP3
        · exact (Below.heap_setCell _ _ _ _ (by simp only; omega)).trans hV3
      case measure =>
        rw [lenAt_eq s0, lenAt_eq (Blk.cell (hS3.set (k := 0) _) (k := 0) rfl)]
        simp
        omega
end Pt
end Go.Proofs.YtgidkaidljiddaaDoor
