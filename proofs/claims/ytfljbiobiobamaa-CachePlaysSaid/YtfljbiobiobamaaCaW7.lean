/-
  Walk of cache.Play, whole. Conditions: none beyond each theorem's own premises.
-/
import Derived.Test.YtfljbiobiobamaaCaW6
namespace Go.Proofs.Ytfljbiobiobamaa
open Go.RowKit Go.Shelf
set_option linter.unusedVariables false
namespace Ca
def cdc (v : Value) (f s : Nat) (st : List Int) : List Value := [v, .int .i64 (f : Int), .int .i64 (s : Int)] ++ st.flatMap icell
theorem info64 : (Try.prog.info? 26).map (·.size) = some 19 := by kernel_rfl
theorem cdc_len {v : Value} {f s : Nat} {st : List Int} (h : st.length = 16) : (cdc v f s st).length = 19 := by
  unfold cdc
  rw [List.length_append, icell_size, h]
  rfl
theorem cdc_one {A : Option Addr} {n c f s : Nat} {st : List Int} : (cdc (.slice A n c) f s st).toArray.all (·.oneCell') = true := by
  rw [Array.all_eq_true_iff_forall_mem]
  intro u hu
  simp only [cdc, List.mem_toArray, List.mem_append, List.mem_cons, List.not_mem_nil, or_false] at hu
  rcases hu with (rfl | rfl | rfl) | hu
  · rfl
  · rfl
  · rfl
  · exact icell_one' st u hu
theorem cdc_mid (v0 v1 v2 : Value) (f s : Nat) (st : List Int) (j : Nat) : (ccells v0 v1 v2 f s st)[2 + j]? = (cdc v2 f s st)[j]? := by
  rw [show ccells v0 v1 v2 f s st = v0 :: v1 :: cdc v2 f s st from rfl, show 2 + j = j + 1 + 1 by omega, List.getElem?_cons_succ, List.getElem?_cons_succ]
def Z0 : List Value := cdc (.slice none 0 0) 0 0 (List.replicate 16 0)
def BadRet (w : World) (e : Ending) (w' : World) : Prop := e = .returned (.tuple #[.agg Z0.toArray, .int .i64 2]) ∧ Below w.heap.size w w'
def CRet (w : World) (cf : Cs) (e : Ending) (w' : World) : Prop := ∃ Ar cr, e = .returned (.tuple #[.agg (cdc (.slice Ar cf.rd.length cr) cf.f cf.s cf.st).toArray, .int .i64 0]) ∧ Sep w w' [rdI Ar cf.rd.length cr cf.rd]
theorem z0_one : Z0.toArray.all (·.oneCell') = true := cdc_one
theorem z0_len : Z0.length = 19 := rfl
def C0 : Cs := ⟨[], [], 0, 0, List.replicate 16 0⟩

theorem info64z : (Try.prog.info? 26).map (·.size) = some Z0.toArray.size := info64
theorem z0_load {w : World} {g : Nat} (h : Blk w g 26 Z0) : (loadVar 26 ⟨g, 0, none⟩).run Try.prog w = .ok (.agg Z0.toArray) w :=
  run_loadVar_row w g 26 26 Z0.toArray (0, 0) _ h Try.underlying26 rfl info64z

set_option maxRecDepth 100000 in
set_option maxHeartbeats 3200000 in
theorem play_bad (sz : Int) (Ad : Option Addr) (n c : Nat) (ops : List O) (w : World) (hr : Rd w w.heap.size 3 Ad n (ops.flatMap O.cells)) (hl : ops.length = n) (hn : n ≤ 5864062014806) (hbad : sz < 1 ∨ sz > 16 ∨ ∃ o ∈ ops, ¬ Good o) :
    Calls Try.prog 7 #[.int .i64 sz, .slice Ad n c] w (BadRet w) := by
  have H1 : Hid (Sep w (w.alloc (.cells #[.slice none 0 0, .int .i64 0, .int .i64 0, .int .i64 0, .int .i64 0, .int .i64 0, .int .i64 0, .int .i64 0, .int .i64 0, .int .i64 0, .int .i64 0, .int .i64 0, .int .i64 0, .int .i64 0, .int .i64 0, .int .i64 0, .int .i64 0, .int .i64 0, .int .i64 0] 26)) [.cells w.heap.size 26 Z0]) := Lib.hid ((Sep.nil_ w).new 26 Z0)
  have HC : Hid (¬ sz < 1 → ¬ sz > 16 → Calls Try.prog 21 #[.slice Ad n c, wrongF] (w.alloc (.cells #[.slice none 0 0, .int .i64 0, .int .i64 0, .int .i64 0, .int .i64 0, .int .i64 0, .int .i64 0, .int .i64 0, .int .i64 0, .int .i64 0, .int .i64 0, .int .i64 0, .int .i64 0, .int .i64 0, .int .i64 0, .int .i64 0, .int .i64 0, .int .i64 0, .int .i64 0] 26)) (Ret (w.alloc (.cells #[.slice none 0 0, .int .i64 0, .int .i64 0, .int .i64 0, .int .i64 0, .int .i64 0, .int .i64 0, .int .i64 0, .int .i64 0, .int .i64 0, .int .i64 0, .int .i64 0, .int .i64 0, .int .i64 0, .int .i64 0, .int .i64 0, .int .i64 0, .int .i64 0, .int .i64 0] 26)) (.bool true))) := Lib.hid fun h1 h2 => contains_any Ad n c ops true _ (hr.later H1.out.below) hl (by omega) ⟨fun _ => hbad.elim (fun h => absurd h h1) (fun h => h.elim (fun h => absurd h h2) id), fun _ => rfl⟩
  clear hr hl hbad
  go_enter Try.func7, Try.ntmps7
  go_upto_region 1 with (fail)
  generalize w.alloc (.cells #[.slice none 0 0, .int .i64 0, .int .i64 0, .int .i64 0, .int .i64 0, .int .i64 0, .int .i64 0, .int .i64 0, .int .i64 0, .int .i64 0, .int .i64 0, .int .i64 0, .int .i64 0, .int .i64 0, .int .i64 0, .int .i64 0, .int .i64 0, .int .i64 0, .int .i64 0] 26) = w1 at H1 HC ⊢
  have HBW : Hid (w.heap.size ≤ w.heap.size) := Lib.hid (Nat.le_refl _)
  generalize hg4 : w.heap.size = g4 at H1 ⊢
  have HG4 := Lib.hid hg4
  clear hg4
  by_cases h1 : sz < 1
  · have H2 := Lib.hid H1.out
    generalize w1 = w2 at H2 ⊢
    clear HC
    have HB2 := Lib.hid (H2.out.blk 0 rfl)
    have HW2 := Lib.hid (H2.out.whole 0 rfl Z0)
    go_wp2_with (refine wpList_store_row rfl 26 (.tmp 4) (.tmp 21) rfl g4 Z0.toArray rfl rfl 26 Z0.toArray HB2.out info64z rfl z0_one ?_)
    have hld := z0_load (HW2.out.blk 0 rfl)
    refine bodyPost_ret (v := .tuple #[.agg Z0.toArray, .int .i64 2]) (by simp [results, Try.results7, asAddr, hld]) rfl ?_
    exact ⟨rfl, HW2.out.below⟩
  by_cases h2 : sz > 16
  · have H2 := Lib.hid H1.out
    generalize w1 = w2 at H2 ⊢
    clear HC
    have HB2 := Lib.hid (H2.out.blk 0 rfl)
    have HW2 := Lib.hid (H2.out.whole 0 rfl Z0)
    go_wp2_with (refine wpList_store_row rfl 26 (.tmp 4) (.tmp 21) rfl g4 Z0.toArray rfl rfl 26 Z0.toArray HB2.out info64z rfl z0_one ?_)
    have hld := z0_load (HW2.out.blk 0 rfl)
    refine bodyPost_ret (v := .tuple #[.agg Z0.toArray, .int .i64 2]) (by simp [results, Try.results7, asAddr, hld]) rfl ?_
    exact ⟨rfl, HW2.out.below⟩
  · have cC := Lib.hid (HC.out h1 h2)
    clear HC
    go_wp2_with fail
    refine cC.out.mono ?_; rintro en w2 ⟨rfl, hb2⟩
    have H2 := Lib.hid (H1.out.later hb2)
    clear cC hb2
    have HB2 := Lib.hid (H2.out.blk 0 rfl)
    have HW2 := Lib.hid (H2.out.whole 0 rfl Z0)
    go_wp2_with (refine wpList_store_row rfl 26 (.tmp 4) (.tmp 21) rfl g4 Z0.toArray rfl rfl 26 Z0.toArray HB2.out info64z rfl z0_one ?_)
    have hld := z0_load (HW2.out.blk 0 rfl)
    refine bodyPost_ret (v := .tuple #[.agg Z0.toArray, .int .i64 2]) (by simp [results, Try.results7, asAddr, hld]) rfl ?_
    exact ⟨rfl, HW2.out.below⟩

theorem drop_at {α : Type} {l : List α} {k : Nat} {x : α} (h : l[k]? = some x) : l.drop k = x :: l.drop (k + 1) := by
  obtain ⟨hk, rfl⟩ := List.getElem?_eq_some_iff.1 h
  exact List.drop_eq_getElem_cons hk
theorem St.later {w0 w w' : World} {gc sz : Nat} {c : Cs} (h : St w0 w gc sz c) (hb : Below w.heap.size w w') : St w0 w' gc sz c := by
  obtain ⟨A, cc, Ar, cr, bl, J, h1, h2, H⟩ := h
  exact ⟨A, cc, Ar, cr, bl, J, h1, h2, H.later hb⟩
theorem St.below {w0 w : World} {gc sz : Nat} {c : Cs} (h : St w0 w gc sz c) : Below w0.heap.size w0 w := by
  obtain ⟨A, cc, Ar, cr, bl, J, h1, h2, H⟩ := h
  exact H.below
theorem st_new (w : World) (sz : Nat) : St w (w.alloc (.cells #[.int .i64 (sz : Int), .slice none 0 0, .slice none 0 0, .int .i64 0, .int .i64 0, .int .i64 0, .int .i64 0, .int .i64 0, .int .i64 0, .int .i64 0, .int .i64 0, .int .i64 0, .int .i64 0, .int .i64 0, .int .i64 0, .int .i64 0, .int .i64 0, .int .i64 0, .int .i64 0, .int .i64 0, .int .i64 0] 65)) w.heap.size sz C0 := by
  have h := (((Sep.nil_ w).new 65 (ccells (.int .i64 (sz : Int)) (.slice none 0 0) (.slice none 0 0) 0 0 (List.replicate 16 0))).nilRow 107 1 none).nilRow 3 1 none
  exact ⟨none, 0, none, 0, [], [], rfl, Nat.le_refl _, h⟩
theorem ok0 (sz : Nat) : Ok sz C0 := ⟨Nat.zero_le _, rfl, (fun p hp => by cases hp), List.nodup_nil⟩
theorem bd0 : Bd C0 0 := ⟨Nat.le_refl _, Nat.le_refl _, Nat.le_refl _⟩

set_option maxRecDepth 100000 in
set_option maxHeartbeats 3200000 in
theorem play_ok (sz : Nat) (Ad : Option Addr) (n c : Nat) (ops : List O) (cf : Cs) (w : World) (hr : Rd w w.heap.size 3 Ad n (ops.flatMap O.cells)) (hl : ops.length = n) (hn : n ≤ 5864062014805) (h1 : 1 ≤ sz) (h16 : sz ≤ 16) (hg : ∀ o ∈ ops, Good o) (hp : Plays sz C0 ops cf) :
    Calls Try.prog 7 #[.int .i64 (sz : Int), .slice Ad n c] w (CRet w cf) := by
  have H1 : Hid (Sep w (w.alloc (.cells #[.slice none 0 0, .int .i64 0, .int .i64 0, .int .i64 0, .int .i64 0, .int .i64 0, .int .i64 0, .int .i64 0, .int .i64 0, .int .i64 0, .int .i64 0, .int .i64 0, .int .i64 0, .int .i64 0, .int .i64 0, .int .i64 0, .int .i64 0, .int .i64 0, .int .i64 0] 26)) [.cells w.heap.size 26 Z0]) := Lib.hid ((Sep.nil_ w).new 26 Z0)
  have cC := Lib.hid (contains_any Ad n c ops false _ (hr.later H1.out.below) hl (by omega) ⟨fun h => absurd h (by decide), fun ⟨o, ho, hno⟩ => absurd (hg o ho) hno⟩)
  have HR := Lib.hid hr
  have HL := Lib.hid hl
  have HG := Lib.hid hg
  have HF : Hid (Plays sz C0 (ops.drop 0) cf) := Lib.hid hp
  have HOK0 : Hid (Ok sz C0) := Lib.hid (ok0 sz)
  have z1 : ¬ (sz : Int) < 1 := by omega
  have z2 : ¬ (sz : Int) > 16 := by omega
  clear hr hl hg hp
  go_enter Try.func7, Try.ntmps7
  go_upto_region 1 with (fail)
  generalize w.alloc (.cells #[.slice none 0 0, .int .i64 0, .int .i64 0, .int .i64 0, .int .i64 0, .int .i64 0, .int .i64 0, .int .i64 0, .int .i64 0, .int .i64 0, .int .i64 0, .int .i64 0, .int .i64 0, .int .i64 0, .int .i64 0, .int .i64 0, .int .i64 0, .int .i64 0, .int .i64 0] 26) = w1 at H1 cC ⊢
  generalize hg4 : w.heap.size = g4 at H1 ⊢
  have HG4 := Lib.hid hg4
  clear hg4
  go_wp2_with fail
  refine cC.out.mono ?_; rintro en w2 ⟨rfl, hb2⟩
  have H2 := Lib.hid (H1.out.later hb2)
  have HR2 := Lib.hid (HR.out.below H2.out.below)
  have HS0 := Lib.hid (st_new w2 sz)
  clear cC hb2 H1
  go_upto_region 5 with (fail)
  generalize w2.alloc (.cells #[.int .i64 (sz : Int), .slice none 0 0, .slice none 0 0, .int .i64 0, .int .i64 0, .int .i64 0, .int .i64 0, .int .i64 0, .int .i64 0, .int .i64 0, .int .i64 0, .int .i64 0, .int .i64 0, .int .i64 0, .int .i64 0, .int .i64 0, .int .i64 0, .int .i64 0, .int .i64 0, .int .i64 0, .int .i64 0] 65) = w3 at HS0 ⊢
  have hgc : w2.heap.size = w2.heap.size := rfl
  generalize w2.heap.size = gc at HS0 ⊢
  clear hgc
  go_wp2
  go_loopg [27] n (fun q i wr => ∃ (k : Nat) (cs : Cs), k ≤ n ∧ q = n - k ∧ i = .int .i64 (k : Int) ∧ Hid (Ok sz cs) ∧ Hid (Bd cs k) ∧ Hid (Plays sz cs (ops.drop k) cf) ∧ St w2 wr gc sz cs)
  case atStart => exact ⟨0, C0, Nat.zero_le _, rfl, rfl, HOK0, Lib.hid bd0, HF, HS0.out⟩
  case round =>
    clear HF HS0 HOK0
    obtain ⟨k, cs, hk, rfl, rfl, HOK, HBD, HF, hs⟩ := hrel
    have HS := Lib.hid hs
    clear hs
    by_cases hlt : k < n
    · obtain ⟨b, off, rfl, hb, hc⟩ := HR2.out.at_ O.len (by omega)
      obtain ⟨o, ho⟩ : ∃ o, ops[k]? = some o := ⟨_, List.getElem?_eq_getElem (by rw [HL.out]; exact hlt)⟩
      have hbb : b < w2.heap.size := Nat.lt_of_lt_of_le hb H2.out.below.size
      have q0 : wr.cell? ⟨b, off + k * 3, none⟩ = some (.int .i64 o.kind) := (HS.out.below.cell hbb).trans (hc k 0 o _ ho rfl)
      have q1 : wr.cell? ⟨b, off + k * 3 + 1, none⟩ = some (.int .i64 o.page) := (HS.out.below.cell hbb).trans (hc k 1 o _ ho rfl)
      have q2 : wr.cell? ⟨b, off + k * 3 + 2, none⟩ = some (.int .i64 o.data) := (HS.out.below.cell hbb).trans (hc k 2 o _ ho rfl)
      have i0 : (0 : Int) ≤ (k : Int) := by omega
      have i1 : (k : Int) < (n : Int) := by omega
      obtain ⟨c1, HWAY, HP2⟩ : ∃ c1, Hid (Way sz cs o c1) ∧ Hid (Plays sz c1 (ops.drop (k + 1)) cf) := by
        have h1 := HF.out
        rw [drop_at ho] at h1
        cases h1 with
        | cons hw hp => exact ⟨_, Lib.hid hw, Lib.hid hp⟩
      have HGO : Hid (Good o) := Lib.hid (HG.out o (List.mem_of_getElem? ho))
      clear hc ho HF hb hbb
      go_upto_region 8 with (fail)
      have cD := Lib.hid (do_any gc sz k o cs c1 w2 _ (HS.out.later ((Below.refl _ _).alloc (Nat.le_refl _) (.cells #[.int .i64 o.kind, .int .i64 o.page, .int .i64 o.data] 59))) HOK.out h16 HGO.out HWAY.out HBD.out (by omega))
      have p0 := (Blk.new wr 59 o.cells).cell (k := 0) rfl
      have p1 := (Blk.new wr 59 o.cells).cell (k := 1) rfl
      have p2 := (Blk.new wr 59 o.cells).cell (k := 2) rfl
      unfold O.cells at p0 p1 p2
      clear q0 q1 q2 HS
      generalize wr.alloc (.cells #[.int .i64 o.kind, .int .i64 o.page, .int .i64 o.data] 59) = wo at cD p0 p1 p2 ⊢
      generalize wr.heap.size = gx at p0 p1 p2 ⊢
      go_wp2_with fail
      refine cD.out.mono ?_; rintro en w5 ⟨rfl, hs5⟩
      have HS5 := Lib.hid hs5
      clear hs5 cD p0 p1 p2
      go_wp2
      go_roundg (n - (k + 1))
      case measure => omega
      case rel => exact ⟨k + 1, c1, by omega, rfl, by go_num, Lib.hid (way_ok HOK.out HGO.out h1 HWAY.out), Lib.hid (way_bd HOK.out h16 HBD.out HWAY.out), HP2, HS5.out⟩
    · obtain rfl : k = n := by omega
      have hF := HF.out
      rw [List.drop_of_length_le (by rw [HL.out]; omega)] at hF
      cases hF
      obtain ⟨A, cc, Ar, cr, bl, J, hbl, hcc, K⟩ := HS.out
      have HJ := Lib.hid (H2.out.join K)
      have HOO := Lib.hid HOK.out
      have hB := Lib.hid (HJ.out.blk 0 rfl)
      have hrg : Hid (wr.rangeAt gc 2 (cdc (.slice Ar cf.rd.length cr) cf.f cf.s cf.st)) := Lib.hid (fun j v hv => HJ.out.cell 1 rfl (k := 2 + j) (by rw [cdc_mid]; exact hv))
      have hsz : Hid ((Try.prog.info? 26).map (·.size) = some (cdc (.slice Ar cf.rd.length cr) cf.f cf.s cf.st).length) := Lib.hid (by rw [cdc_len HOO.out.st]; exact info64)
      have hsa : Hid ((Try.prog.info? 26).map (·.size) = some (cdc (.slice Ar cf.rd.length cr) cf.f cf.s cf.st).toArray.size) := Lib.hid (by rw [List.size_toArray]; exact hsz.out)
      have HW := Lib.hid (HJ.out.whole 0 rfl (cdc (.slice Ar cf.rd.length cr) cf.f cf.s cf.st))
      clear K hbl hcc
      go_wp2_with (first | (refine wpList_load_mid rfl 26 (.tmp 37) rfl gc 2 rfl _ _ hrg.out Try.underlying26 rfl hsz.out ?_) | (refine wpList_store_row rfl 26 (.tmp 4) (.tmp 38) rfl g4 _ rfl rfl 26 Z0.toArray hB.out hsa.out (by rw [List.size_toArray, List.size_toArray, cdc_len HOO.out.st]; rfl) cdc_one ?_))
      have hld : (loadVar 26 ⟨g4, 0, none⟩).run Try.prog (wr.setRow g4 (cdc (.slice Ar cf.rd.length cr) cf.f cf.s cf.st).toArray) = .ok (.agg (cdc (.slice Ar cf.rd.length cr) cf.f cf.s cf.st).toArray) _ :=
        run_loadVar_row _ g4 26 26 _ (0, 0) _ (HW.out.blk 0 rfl) Try.underlying26 rfl hsa.out
      refine bodyPost_ret (v := .tuple #[.agg (cdc (.slice Ar cf.rd.length cr) cf.f cf.s cf.st).toArray, .int .i64 0]) (by simp [results, Try.results7, asAddr, hld]) rfl ?_
      exact ⟨Ar, cr, rfl, HW.out.pick [3] (by decide) (by simp)⟩
end Ca
end Go.Proofs.Ytfljbiobiobamaa
