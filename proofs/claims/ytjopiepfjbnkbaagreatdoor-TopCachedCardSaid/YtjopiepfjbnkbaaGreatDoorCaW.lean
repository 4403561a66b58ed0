/-
  Walks of package cache: finding a page, writing one back. Conditions: none beyond each theorem's own premises.
-/
import Derived.Test.YtjopiepfjbnkbaaGreatDoorCaM
import Derived.Test.YtjopiepfjbnkbaaGreatDoorMap
import Derived.Test.YtjopiepfjbnkbaaGreatDoorBase
import Derived.Test.YtjopiepfjbnkbaaGreatDoorDelIns
import Derived.Shelf.Abstract
import Derived.BigRegion
namespace Go.Proofs.YtjopiepfjbnkbaaGreatDoor
open Go.RowKit Go.Shelf
set_option linter.unusedVariables false
namespace Ca

def pcell (g : Nat) : List Value := [.pointer (some ⟨g, 0, none⟩)]
theorem pcell_len : ∀ g, (pcell g).length = 1 := fun _ => rfl
theorem pcell_one (l : List Nat) : ∀ u ∈ l.flatMap pcell, u.oneCell' = true := by
  intro u hu
  rw [List.mem_flatMap] at hu
  obtain ⟨x, _, hu⟩ := hu
  simp only [pcell, List.mem_cons, List.not_mem_nil, or_false] at hu
  rw [hu]
  rfl
theorem pcell_at {l : List Nat} {k g : Nat} (h : l[k]? = some g) : (l.flatMap pcell)[k]? = some (.pointer (some ⟨g, 0, none⟩)) := by
  have := flat_get pcell_len l k 0 _ h (by omega)
  rw [Nat.mul_one, Nat.add_zero] at this
  exact this
theorem ptr_info : (Tryz.prog.info? 129).map (fun i => (i.zero, i.size, i.bytes)) = some (some (.pointer none), 1, 8) := by kernel_rfl
set_option maxRecDepth 100000 in
set_option maxHeartbeats 1600000 in
theorem delete_any (w0 w : World) (L : List It) (A : Option Addr) (m c i : Nat) (xs : List Value) (H : Sep w0 w (.row 129 1 (.slice A (m + 1) c) (m + 1) xs :: L)) (hi : i ≤ m) (hmc : m + 1 ≤ c) (hm : m + 1 ≤ 9223372036854775807) (h1 : ∀ u ∈ xs, u.oneCell' = true) :
    Calls Tryz.prog 64 #[.slice A (m + 1) c, .int .i64 (i : Int), .int .i64 ((i : Int) + 1)] w (fun e w' => e = .returned (.slice A m c) ∧ Sep w0 w' (.row 129 1 (.slice A m c) m (xs.take (i * 1) ++ xs.drop ((i + 1) * 1)) :: L)) := by
  obtain ⟨ti, hti, t0, t1, t2⟩ := info_parts ptr_info
  obtain ⟨v, A2, A3, d, c2, c3, s0, s1, s2, s3, hS⟩ := strike_sep (P := Tryz.prog) H 0 (t := 81) Tryz.underlying81 hti t0 t1 rfl (by decide) (by omega) rfl hi hmc h1
  have HS := Lib.hid hS
  have HH := Lib.hid H
  clear H hS h1
  obtain ⟨n, hn⟩ : ∃ n, n = m + 1 := ⟨_, rfl⟩
  rw [← hn] at s0 s1 s2 s3 HH hmc hm ⊢
  have HN := Lib.hid hn
  have ne : ((i : Int) == (i : Int) + 1) = false := by simp; omega
  have ne2 : ¬ (i : Int) = (i : Int) + 1 := by omega
  clear hn
  go_enter Tryz.func64, Tryz.ntmps64
  go_upto_region 5 with (fail)
  (refine wp_region_tail 6 (by kernel_rfl) (by kernel_rfl) ?_; simp only [List.take_succ_cons, List.take_zero, List.drop_succ_cons, List.drop_zero]; repeat (go_big_quiet_step (fail)))
  refine wpQuiet_nil ?_; intro xw hw'; obtain ⟨xq, hw''⟩ := hw'; obtain ⟨xw0, xh⟩ := xq; change xw = xw0 at hw''; subst hw''
  obtain ⟨w2, w3, ha, hc, hs⟩ := HS.out xw xh
  have HS3 := Lib.hid hs
  clear hs
  go_wp2_with (first | (at_builtin; refine Lib.wpList_append_run _ rfl _ _ _ _ rfl _ _ rfl rfl _ _ (ha _) ?_))
  go_ret
  exact ⟨rfl, HS3.out⟩

theorem usefn_any (g gb : Nat) (x page : Int) (b : Bool) (w : World) (h0 : w.cell? ⟨g, 0, none⟩ = some (.int .i64 x)) (h1 : w.cell? ⟨gb, 0, none⟩ = some (.int .i64 page)) (hb : (x == page) = b) :
    Calls Tryz.prog 63 #[.pointer (some ⟨g, 0, none⟩), .pointer (some ⟨gb, 0, none⟩)] w (Ret w (.bool b)) := by
  have q0 := fun z : LaterOf w => z.cell h0
  have q1 := fun z : LaterOf w => z.cell h1
  have HB := Lib.hid hb
  clear h0 h1 hb
  go_enter Tryz.func63, Tryz.ntmps63
  go_wp2
  refine wp_region_later (by kernel_rfl) (by kernel_rfl) ?_
  repeat (go_big_quiet_step (fail))
  refine wpQuiet_nil ?_; intro xw hw'; obtain ⟨xq, hw''⟩ := hw'; obtain ⟨xw0, xh⟩ := xq; change xw = xw0 at hw''; subst hw''
  go_wp2
  go_ret
  exact Ret.mk (bool_eq HB.out) xh

set_option maxRecDepth 100000 in
set_option maxHeartbeats 1600000 in
theorem pindex_any (A : Option Addr) (n c gb p : Nat) (bl : List Nat) (num : Nat → Int) (page out : Int) (w : World) (hr : Rd w w.heap.size 1 A n (bl.flatMap pcell)) (hl : bl.length = n) (hn : n ≤ 9223372036854775807) (hg : w.cell? ⟨gb, 0, none⟩ = some (.int .i64 page))
    (hc : ∀ k g, bl[k]? = some g → w.cell? ⟨g, 0, none⟩ = some (.int .i64 (num k))) (hp : p ≤ n) (hlo : ∀ k, k < p → num k ≠ page) (hhi : p < n → num p = page) (ho : out = if p < n then (p : Int) else -1) :
    Calls Tryz.prog 62 #[.slice A n c, .func (.func 63) #[] #[.pointer (some ⟨gb, 0, none⟩)]] w (Ret w (.int .i64 out)) := by
  have HR := Lib.hid hr
  have HL := Lib.hid hl
  have HG := Lib.hid hg
  have HC := Lib.hid hc
  have HLO := Lib.hid hlo
  have HHI := Lib.hid hhi
  have HF := Lib.hid ho
  have hgb := World.block_lt_of_cell? w _ hg
  have eg := enters_of Tryz.func63 (by kernel_rfl) rfl
  clear hr hl hg hc hlo hhi ho
  go_enter Tryz.func62, Tryz.ntmps62
  go_wp2
  go_loopg [8] n (fun q i wr => ∃ (k : Nat), k ≤ n ∧ k ≤ p ∧ q = n - k ∧ i = .int .i64 k ∧ Sep w wr [])
  case atStart => exact ⟨0, Nat.zero_le _, Nat.zero_le _, rfl, rfl, Sep.nil_ w⟩
  case round =>
    obtain ⟨k, hk, hkp, rfl, rfl, hs⟩ := hrel
    have HS := Lib.hid hs
    clear hs
    by_cases hlt : k < n
    · obtain ⟨b, off, rfl, hb, hc⟩ := HR.out.at_ pcell_len (by omega)
      obtain ⟨x, hx⟩ : ∃ x, bl[k]? = some x := ⟨_, List.getElem?_eq_getElem (by rw [HL.out]; exact hlt)⟩
      have d0 : wr.cell? ⟨b, off + k, none⟩ = some (.pointer (some ⟨x, 0, none⟩)) := by
        have := (HS.out.below.cell hb).trans (hc k 0 x _ hx rfl)
        rwa [Nat.mul_one, Nat.add_zero] at this
      have i0 : (0 : Int) ≤ (k : Int) := by omega
      have i1 : (k : Int) < (n : Int) := by omega
      have hxc := HC.out k x hx
      have HXC : Hid (wr.cell? ⟨x, 0, none⟩ = some (.int .i64 (num k))) := Lib.hid ((HS.out.below.cell (World.block_lt_of_cell? w _ hxc)).trans hxc)
      clear hc hx hxc
      by_cases hgx : num k = page
      · have hpk : k = p := by
          rcases Nat.lt_or_ge k p with h | h
          · exact absurd hgx (HLO.out k h)
          · omega
        have cB := Lib.hid (usefn_any x gb (num k) page true wr HXC.out ((HS.out.below.cell hgb).trans HG.out) (by rw [hgx]; exact beq_self_eq_true _))
        have HE : Hid ((k : Int) = out) := Lib.hid (by rw [HF.out, if_pos (by omega), hpk])
        clear hpk hgx
        go_wp2_with fail
        refine cB.out.mono ?_; rintro en w1 ⟨rfl, hb1⟩
        have S1 := Lib.hid (HS.out.later hb1)
        go_wp2
        go_ret
        exact Ret.mk (int_eq HE.out) S1.out.below
      · have hpk : k < p := by
          rcases Nat.lt_or_ge k p with h | h
          · exact h
          · obtain rfl : k = p := by omega
            exact absurd (HHI.out hlt) hgx
        have cB := Lib.hid (usefn_any x gb (num k) page false wr HXC.out ((HS.out.below.cell hgb).trans HG.out) (by rw [beq_eq_false_iff_ne]; exact hgx))
        clear hgx
        go_wp2_with fail
        refine cB.out.mono ?_; rintro en w1 ⟨rfl, hb1⟩
        have S1 := Lib.hid (HS.out.later hb1)
        go_wp2
        go_roundg (n - (k + 1))
        case measure => omega
        case rel => exact ⟨k + 1, by omega, by omega, rfl, by go_num, S1.out⟩
    · have HE : Hid ((-1 : Int) = out) := Lib.hid (by rw [HF.out, if_neg (by omega)])
      go_wp2
      go_ret
      exact Ret.mk (int_eq HE.out) HS.out.below

/-- the cache's own cells -/
def ccells (v0 v1 v2 : Value) (f s : Nat) (st : List Int) : List Value := [v0, v1, v2, .int .i64 (f : Int), .int .i64 (s : Int)] ++ st.flatMap icell
abbrev ccI (gc : Nat) (v0 v1 v2 : Value) (f s : Nat) (st : List Int) : It := .cells gc 83 (ccells v0 v1 v2 f s st)
abbrev pgI (g : Nat) (p : Pg) : It := .cells g 134 [.int .i64 (p.n : Int), .int .i64 p.d, .bool p.w]
theorem cc_st {v0 v1 v2 : Value} {f s : Nat} {st : List Int} {k : Nat} {x : Int} (h : st[k]? = some x) : (ccells v0 v1 v2 f s st)[5 + k]? = some (.int .i64 x) := by
  unfold ccells
  rw [List.getElem?_append_right (by simp), show 5 + k - [v0, v1, v2, Value.int .i64 (f : Int), .int .i64 (s : Int)].length = k by simp, icell_at, h]
  rfl
theorem cc_set (v0 v1 v2 : Value) (f s : Nat) (st : List Int) (k : Nat) (x : Int) : (ccells v0 v1 v2 f s st).set (5 + k) (.int .i64 x) = ccells v0 v1 v2 f s (st.set k x) := by
  unfold ccells
  rw [List.set_append_right _ _ (by simp), show 5 + k - [v0, v1, v2, Value.int .i64 (f : Int), .int .i64 (s : Int)].length = k by simp, icell_set]

set_option maxRecDepth 100000 in
set_option maxHeartbeats 1600000 in
theorem clean_any (gc g j f s : Nat) (v0 v1 v2 : Value) (st : List Int) (p : Pg) (R : List It) (w0 w : World) (hs : Sep w0 w (ccI gc v0 v1 v2 f s st :: R)) (hj : R[j]? = some (pgI g p)) (hn : p.n < 16) (hst : st.length = 16) (hb : s < 140737488355328) :
    Calls Tryz.prog 41 #[.pointer (some ⟨gc, 0, none⟩), .pointer (some ⟨g, 0, none⟩)] w (fun e w' => e = .returned (.tuple #[]) ∧ Sep w0 w' (ccI gc v0 v1 v2 f (s + cnt1 p) (put1 p st) :: R.set j (pgI g p.clean))) := by
  obtain ⟨pn, pd, pw⟩ := p
  have hj' : (ccI gc v0 v1 v2 f s st :: R)[j + 1]? = some (pgI g ⟨pn, pd, pw⟩) := by rw [List.getElem?_cons_succ]; exact hj
  have HS := Lib.hid hs
  have hjl := (List.getElem?_eq_some_iff.1 hj).1
  have y2 := hs.cell (j + 1) hj' (k := 2) rfl
  simp only at y2
  cases pw with
  | false =>
    have e1 : R.set j (pgI g (Pg.clean ⟨pn, pd, false⟩)) = R := by
      obtain ⟨hl, hx⟩ := List.getElem?_eq_some_iff.1 hj
      rw [show pgI g (Pg.clean ⟨pn, pd, false⟩) = R[j] from hx.symm, List.set_getElem_self]
    rw [e1]
    clear hs hj hj' e1
    go_enter Tryz.func41, Tryz.ntmps41
    go_wp2
    refine bodyPost_end (v := .tuple #[]) (by simp [results, Tryz.results41]) rfl ?_
    exact ⟨rfl, HS.out⟩
  | true =>
    simp only at hn
    have y0 := fun z : LaterOf w => z.cell (hs.cell (j + 1) hj' (k := 0) rfl)
    have y1 := fun z : LaterOf w => z.cell (hs.cell (j + 1) hj' (k := 1) rfl)
    simp only at y0 y1
    have m0 : (0 : Int) ≤ (pn : Int) := by omega
    have m1 : (pn : Int) < 16 := by omega
    have HJ := Lib.hid hj'
    clear hs hj hj'
    go_enter Tryz.func41, Tryz.ntmps41
    go_wp2
    clear y2
    (refine wp_region_tail 13 (by kernel_rfl) (by kernel_rfl) ?_; simp only [List.take_succ_cons, List.take_zero, List.drop_succ_cons, List.drop_zero]; repeat (go_big_quiet_step (fail)))
    clear y0 y1
    refine wpQuiet_nil ?_; intro xw hw'; obtain ⟨xq, hw''⟩ := hw'; obtain ⟨xw0, xh⟩ := xq; change xw = xw0 at hw''; subst hw''
    have H3 := HS.out.later xh
    obtain ⟨x, hx⟩ : ∃ x, st[pn]? = some x := ⟨_, List.getElem?_eq_getElem (by omega)⟩
    have c0 := H3.cell 0 rfl (cc_st hx)
    have u0 := H3.froz 0 rfl (k := 5 + pn)
    have H4 := Lib.hid (H3.set 0 rfl (k := 5 + pn) (.int .i64 pd))
    rw [cc_set] at H4
    clear H3 hx
    go_upto_region 2 with (fail)
    clear c0 u0
    generalize xw.setCell ⟨gc, 5 + pn, none⟩ (.int .i64 pd) = w1 at H4 ⊢
    have c0 := H4.out.cell 0 rfl (k := 4) rfl
    have u0 := H4.out.froz 0 rfl (k := 4)
    obtain ⟨sq, HSQ⟩ : ∃ sq : Nat, Hid (sq = s + 1) := ⟨_, Lib.hid rfl⟩
    have k1 : (s : Int) + 1 = (sq : Int) := by have := HSQ.out; omega
    have k2 : (0 : Int) ≤ (s : Int) := by omega
    have k3 : (sq : Int) < 9223372036854775807 := by have := HSQ.out; omega
    have H5 := Lib.hid (H4.out.set 0 rfl (k := 4) (.int .i64 (sq : Int)))
    clear H4
    go_upto_region 3 with (fail)
    clear c0 u0 k1 k2 k3
    generalize w1.setCell ⟨gc, 4, none⟩ (.int .i64 (sq : Int)) = w2 at H5 ⊢
    have hj2 : (((ccI gc v0 v1 v2 f s st :: R).set 0 (.cells gc 83 (ccells v0 v1 v2 f s (st.set pn pd)))).set 0 (.cells gc 83 ((ccells v0 v1 v2 f s (st.set pn pd)).set 4 (.int .i64 (sq : Int)))))[j + 1]? = some (pgI g ⟨pn, pd, true⟩) := HJ.out
    have c0 := H5.out.cell (j + 1) hj2 (k := 2) rfl
    have u0 := H5.out.froz (j + 1) hj2 (k := 2)
    have H6 := Lib.hid (H5.out.set (j + 1) hj2 (k := 2) (.bool false))
    clear H5 hj2
    go_wp2
    refine bodyPost_end (v := .tuple #[]) (by simp [results, Tryz.results41]) rfl ?_
    refine ⟨rfl, ?_⟩
    have := H6.out
    rw [HSQ.out] at this
    exact this
end Ca
end Go.Proofs.YtjopiepfjbnkbaaGreatDoor
