/-
  Walk of the reference's store, a closure of TPlay. Conditions: none beyond each theorem's own premises.
-/
import Derived.Test.YtfljbiobiobamaaCaW7
namespace Go.Proofs.Ytfljbiobiobamaa
open Go.RowKit Go.Shelf
set_option linter.unusedVariables false
namespace Ca
def ienc (x : Int) : Value := .int .i64 x
def benc (x : Bool) : Value := .bool x
abbrev im (g n : Nat) (h : Int → Option Int) : It := .map Try.prog 3 (Value.int .i64) ienc g n h
abbrev bm (g n : Nat) (h : Int → Option Bool) : It := .map Try.prog 3 (Value.int .i64) benc g n h
theorem kint : KMk Try.prog 3 (Value.int .i64) (fun x => (Lit.int .i64 x).wf = true) := kmk_int Try.underlying3
theorem iz (w : World) : (zeroValue 3).run Try.prog w = .ok (.int .i64 0) w := by kernel_rfl
theorem bz (w : World) : (zeroValue 4).run Try.prog w = .ok (.bool false) w := by kernel_rfl
abbrev cdI (g : Nat) (v : Value) (f s : Nat) (st : List Int) : It := .cells g 26 (cdc v f s st)
abbrev c10 (g gd : Nat) : It := .cells g 67 [.map (some gd)]
abbrev c11 (g gy : Nat) : It := .cells g 68 [.map (some gy)]
theorem cdc_st {v : Value} {f s : Nat} {st : List Int} {k : Nat} {x : Int} (h : st[k]? = some x) : (cdc v f s st)[3 + k]? = some (.int .i64 x) := by
  unfold cdc
  rw [List.getElem?_append_right (by simp), show 3 + k - [v, Value.int .i64 (f : Int), .int .i64 (s : Int)].length = k by simp, icell_at, h]
  rfl
theorem cdc_set (v : Value) (f s : Nat) (st : List Int) (k : Nat) (x : Int) : (cdc v f s st).set (3 + k) (.int .i64 x) = cdc v f s (st.set k x) := by
  unfold cdc
  rw [List.set_append_right _ _ (by simp), show 3 + k - [v, Value.int .i64 (f : Int), .int .i64 (s : Int)].length = k by simp, icell_set]

set_option maxRecDepth 100000 in
set_option maxHeartbeats 3200000 in
theorem store_no (g8 g10 g11 gd gy nd ny f s p : Nat) (v : Value) (st : List Int) (dt : Int → Option Int) (dy : Int → Option Bool) (R : List It) (w0 w : World)
    (hs : Sep w0 w (cdI g8 v f s st :: c10 g10 gd :: c11 g11 gy :: im gd nd dt :: bm gy ny dy :: R)) (hp : p < 16) (hd : dy (p : Int) ≠ some true) :
    Calls Try.prog 23 #[.int .i64 (p : Int), .pointer (some ⟨g11, 0, none⟩), .pointer (some ⟨g10, 0, none⟩), .pointer (some ⟨g8, 0, none⟩)] w (fun e w' => e = .returned (.tuple #[]) ∧ Sep w0 w' (cdI g8 v f s st :: c10 g10 gd :: c11 g11 gy :: im gd nd dt :: bm gy ny dy :: R)) := by
  have pw : (Lit.int .i64 (p : Int)).wf = true := WalkArith.wf_i64 (by omega)
  have l1 := hs.look 4 rfl kint pw Try.underlying68 (bz w)
  have l1' : (Instr.lookup 68 (.map (some gy)) (.int .i64 (p : Int)) false).run Try.prog w = .ok (.bool false) w := by
    rw [l1]
    cases h : dy (p : Int) with
    | none => rfl
    | some b => cases b with
      | false => rfl
      | true => exact absurd h hd
  have c1 := hs.cell 2 rfl (k := 0) rfl
  have HS := Lib.hid hs
  clear hs hd l1 pw
  go_enter Try.func23, Try.ntmps23
  go_wp2
  refine bodyPost_end (v := .tuple #[]) (by simp [results, Try.results23]) rfl ?_
  exact ⟨rfl, HS.out⟩

set_option maxRecDepth 100000 in
set_option maxHeartbeats 3200000 in
theorem store_yes (g8 g10 g11 gd gy nd ny f s p : Nat) (d : Int) (v : Value) (st : List Int) (dt : Int → Option Int) (dy : Int → Option Bool) (R : List It) (w0 w : World)
    (hs : Sep w0 w (cdI g8 v f s st :: c10 g10 gd :: c11 g11 gy :: im gd nd dt :: bm gy ny dy :: R)) (hp : p < 16) (hd : dy (p : Int) = some true) (ht : dt (p : Int) = some d) (hst : st.length = 16) (hb : s < 140737488355328) (hny : ny < maxLen) :
    Calls Try.prog 23 #[.int .i64 (p : Int), .pointer (some ⟨g11, 0, none⟩), .pointer (some ⟨g10, 0, none⟩), .pointer (some ⟨g8, 0, none⟩)] w (fun e w' => e = .returned (.tuple #[]) ∧ Sep w0 w' (cdI g8 v f (s + 1) (st.set p d) :: c10 g10 gd :: c11 g11 gy :: im gd nd dt :: bm gy ny (mup dy (p : Int) false) :: R)) := by
  have pw : (Lit.int .i64 (p : Int)).wf = true := WalkArith.wf_i64 (by omega)
  have l1 := hs.look 4 rfl kint pw Try.underlying68 (bz w)
  have l2 := hs.look 3 rfl kint pw Try.underlying67 (iz w)
  rw [hd] at l1
  rw [ht] at l2
  simp only [Option.elim, ienc, benc] at l1 l2
  have c1 := hs.cell 2 rfl (k := 0) rfl
  have c2 := hs.cell 1 rfl (k := 0) rfl
  obtain ⟨x, hx⟩ : ∃ x, st[p]? = some x := ⟨_, List.getElem?_eq_getElem (by omega)⟩
  have e1 := hs.cell 0 rfl (cdc_st hx)
  have u1 := hs.froz 0 rfl (k := 3 + p)
  have H2 := Lib.hid (hs.set 0 rfl (k := 3 + p) (.int .i64 d))
  rw [cdc_set] at H2
  have m0 : (0 : Int) ≤ (p : Int) := by omega
  have m1 : (p : Int) < 16 := by omega
  have HPW := Lib.hid pw
  have HD := Lib.hid hd
  clear hs hd ht hst hx pw
  go_enter Try.func23, Try.ntmps23
  go_upto_region 2 with (fail)
  clear l1 l2 c1 c2 e1 u1
  generalize w.setCell ⟨g8, 3 + p, none⟩ (.int .i64 d) = w2 at H2 ⊢
  have e1 := H2.out.cell 0 rfl (k := 2) rfl
  have u1 := H2.out.froz 0 rfl (k := 2)
  obtain ⟨sq, HSQ⟩ : ∃ sq : Nat, Hid (sq = s + 1) := ⟨_, Lib.hid rfl⟩
  have k1 : (s : Int) + 1 = (sq : Int) := by have := HSQ.out; omega
  have k2 : (0 : Int) ≤ (s : Int) := by omega
  have k3 : (sq : Int) < 9223372036854775807 := by have := HSQ.out; omega
  have H3 := Lib.hid (H2.out.set 0 rfl (k := 2) (.int .i64 (sq : Int)))
  clear H2
  go_upto_region 3 with (fail)
  clear e1 u1 k1 k2 k3
  generalize w2.setCell ⟨g8, 2, none⟩ (.int .i64 (sq : Int)) = w3 at H3 ⊢
  have c1 := H3.out.cell 2 rfl (k := 0) rfl
  obtain ⟨w4, hrun, hsz, H4'⟩ := H3.out.store 4 rfl kint HPW.out Try.underlying68 hny false
  simp only [benc] at hrun
  have H4 := Lib.hid H4'
  clear H3 H4' hsz
  go_wp2
  refine bodyPost_end (v := .tuple #[]) (by simp [results, Try.results23]) rfl ?_
  refine ⟨rfl, ?_⟩
  have := H4.out
  rw [HD.out, HSQ.out] at this
  exact this
end Ca
end Go.Proofs.Ytfljbiobiobamaa
