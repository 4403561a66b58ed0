/-
  Walk of cache.use: found, not found with room, not found with none. Conditions: none beyond each theorem's own premises.
-/
import Derived.Test.YtjopiepfjbnkbaaGreatDoorCaW
namespace Go.Proofs.YtjopiepfjbnkbaaGreatDoor
open Go.RowKit Go.Shelf
set_option linter.unusedVariables false
namespace Ca

abbrev ptI (A : Option Addr) (n c : Nat) (bl : List Nat) : It := .row 129 1 (.slice A n c) n (bl.flatMap pcell)
def objs (bl : List Nat) (L : List Pg) : List It := List.zipWith pgI bl L
theorem objs_at {L : List Pg} {bl : List Nat} {k g : Nat} {p : Pg} (h1 : bl[k]? = some g) (h2 : L[k]? = some p) : (objs bl L)[k]? = some (pgI g p) := by
  unfold objs
  rw [List.getElem?_zipWith, h1, h2]
theorem objs_snoc {L : List Pg} {bl : List Nat} {g : Nat} {p : Pg} (h : bl.length = L.length) : objs (bl ++ [g]) (L ++ [p]) = objs bl L ++ [pgI g p] := by
  unfold objs
  rw [List.zipWith_append h]
  rfl
theorem objs_erase : ∀ {bl : List Nat} {L : List Pg} {i g : Nat} {p : Pg}, bl.length = L.length → bl[i]? = some g → L[i]? = some p → (objs bl L).Perm (pgI g p :: objs (bl.eraseIdx i) (L.eraseIdx i))
  | [], L, i, g, p, _, h, _ => by simp at h
  | b :: bl, [], i, g, p, h, _, _ => by simp at h
  | b :: bl, x :: L, 0, g, p, hl, h1, h2 => by
    simp only [List.getElem?_cons_zero, Option.some.injEq] at h1 h2
    subst h1 h2
    exact List.Perm.refl _
  | b :: bl, x :: L, i + 1, g, p, hl, h1, h2 => by
    rw [List.getElem?_cons_succ] at h1 h2
    have ih := objs_erase (by simpa using hl) h1 h2
    exact (List.Perm.cons _ ih).trans (List.Perm.swap _ _ _)
def numOf (L : List Pg) (k : Nat) : Int := (L[k]?.map fun p => (p.n : Int)).getD 0
theorem numOf_at {L : List Pg} {k : Nat} {p : Pg} (h : L[k]? = some p) : numOf L k = (p.n : Int) := by
  unfold numOf
  rw [h]
  rfl
theorem objs_cells {w0 w : World} {a b c : It} {bl : List Nat} {L : List Pg} {J : List It} (H : Sep w0 w (a :: b :: c :: (objs bl L ++ J))) (hl : bl.length = L.length) : ∀ k g, bl[k]? = some g → w.cell? ⟨g, 0, none⟩ = some (.int .i64 (numOf L k)) := fun k x hx => by
  have hk := (List.getElem?_eq_some_iff.1 hx).1
  obtain ⟨q, hq⟩ : ∃ q, L[k]? = some q := ⟨_, List.getElem?_eq_getElem (by omega)⟩
  rw [numOf_at hq]
  have ho := objs_at hx hq
  exact H.cell (k + 1 + 1 + 1) (by rw [List.getElem?_cons_succ, List.getElem?_cons_succ, List.getElem?_cons_succ, List.getElem?_append, if_pos (List.getElem?_eq_some_iff.1 ho).1]; exact ho) (k := 0) rfl
theorem erase_pt (bl : List Nat) (i : Nat) : (bl.flatMap pcell).take (i * 1) ++ (bl.flatMap pcell).drop ((i + 1) * 1) = (bl.eraseIdx i).flatMap pcell := by
  rw [flat_take pcell_len, flat_drop pcell_len, ← List.flatMap_append, List.eraseIdx_eq_take_drop_succ]

set_option maxRecDepth 100000 in
set_option maxHeartbeats 3200000 in
theorem use_hit (gc sz n m i g c f s np : Nat) (A : Option Addr) (v2 : Value) (st : List Int) (bl : List Nat) (L : List Pg) (p : Pg) (X : It) (J : List It) (w0 w : World)
    (hs : Sep w0 w (ccI gc (.int .i64 (sz : Int)) (.slice A n c) v2 f s st :: ptI A n c bl :: X :: (objs bl L ++ J))) (hbl : bl.length = n) (hL : L.length = n) (hn : n ≤ 16) (hnm : n = m + 1) (hc : n ≤ c) (hg : bl[i]? = some g) (hi : L[i]? = some p) (hp : p.n = np) (hlo : ∀ k q, k < i → L[k]? = some q → q.n ≠ np) :
    Calls Tryz.prog 42 #[.pointer (some ⟨gc, 0, none⟩), .int .i64 (np : Int)] w (fun e w' => ∃ A' c' K, e = .returned (.tuple #[.pointer (some ⟨g, 0, none⟩), .bool true]) ∧ n ≤ c' ∧
      Sep w0 w' (ccI gc (.int .i64 (sz : Int)) (.slice A' n c') v2 f s st :: ptI A' n c' (bl.eraseIdx i ++ [g]) :: X :: (objs (bl.eraseIdx i ++ [g]) (L.eraseIdx i ++ [p]) ++ (J ++ K)))) := by
  obtain ⟨ti, hti, t0, t1, t2⟩ := info_parts ptr_info
  have hil : i < n := by rw [← hL]; exact (List.getElem?_eq_some_iff.1 hi).1
  have HA : Hid (∀ k, k < i → numOf L k ≠ (np : Int)) := Lib.hid fun k hk => by
    obtain ⟨q, hq⟩ : ∃ q, L[k]? = some q := ⟨_, List.getElem?_eq_getElem (by omega)⟩
    rw [numOf_at hq]
    have := hlo k q hk hq
    omega
  have HB : Hid (i < n → numOf L i = (np : Int)) := Lib.hid fun _ => by rw [numOf_at hi, hp]
  have HO : Hid ((i : Int) = if i < n then (i : Int) else -1) := Lib.hid (by rw [if_pos hil])
  have HG := Lib.hid hg
  have HI := Lib.hid hi
  have HNM := Lib.hid hnm
  clear hlo hp hg hi hnm
  have HS := Lib.hid hs
  have HBL := Lib.hid hbl
  have HLL := Lib.hid hL
  clear hs hbl hL
  go_enter Tryz.func42, Tryz.ntmps42
  go_upto_region 1 with (fail)
  have H1 := Lib.hid (HS.out.alloc (.cells #[.int .i64 (np : Int)] 3))
  have hgb : (w.alloc (.cells #[.int .i64 (np : Int)] 3)).cell? ⟨w.heap.size, 0, none⟩ = some (.int .i64 (np : Int)) := (Blk.new w 3 [.int .i64 (np : Int)]).cell (k := 0) rfl
  clear HS
  generalize w.alloc (.cells #[.int .i64 (np : Int)] 3) = w1 at H1 hgb ⊢
  generalize w.heap.size = gb at hgb ⊢
  have c1 := H1.out.cell 0 rfl (k := 1) rfl
  have cI := Lib.hid (pindex_any A n c gb i bl (numOf L) (np : Int) (i : Int) w1 (H1.out.rd 1 rfl) HBL.out (by omega) hgb (objs_cells H1.out (by rw [HBL.out, HLL.out])) (by omega) HA.out HB.out HO.out)
  have HGB := Lib.hid hgb
  clear hgb
  go_wp2_with fail
  refine cI.out.mono ?_; rintro en w2 ⟨rfl, hb2⟩
  have H2 := Lib.hid (H1.out.later hb2)
  have hgb : w2.cell? ⟨gb, 0, none⟩ = some (.int .i64 (np : Int)) := (hb2.cell (World.block_lt_of_cell? w1 _ HGB.out)).trans HGB.out
  clear c1 cI H1 hb2 HGB
  go_upto_region 3 with (fail)
  clear hgb
  have H3 := Lib.hid (H2.out.new 134 [.int .i64 (np : Int), .int .i64 0, .bool false])
  clear H2
  generalize w2.alloc (.cells #[.int .i64 (np : Int), .int .i64 0, .bool false] 134) = w3 at H3 ⊢
  generalize w2.heap.size = gp at H3 ⊢
  have hH3 := H3.out
  obtain ⟨b, rfl, _, hat⟩ := hH3.rowAt 1 rfl (by omega)
  have e1 : w3.cell? ⟨b, i, none⟩ = some (.pointer (some ⟨g, 0, none⟩)) := (hat i).1 _ (pcell_at HG.out)
  have c1 := hH3.cell 0 rfl (k := 1) rfl
  have i0 : (0 : Int) ≤ (i : Int) := by omega
  have i1 : (i : Int) < (n : Int) := by omega
  clear hH3 hat
  go_upto_region 5 with (fail)
  have KD := Lib.hid (H3.out.perm (List.Perm.swap _ _ _))
  have hnm := HNM.out
  clear HNM
  subst hnm
  have cD := Lib.hid (delete_any w0 w3 _ (some ⟨b, 0, none⟩) m c i _ KD.out (by omega) hc (by omega) (pcell_one bl))
  clear e1 i1
  go_wp2_with fail
  refine cD.out.mono ?_; rintro en w4 ⟨rfl, K4⟩
  rw [erase_pt] at K4
  have KK := K4.perm (List.Perm.swap _ _ _)
  have c1 := KK.cell 0 rfl (k := 1) rfl
  have u1 := KK.froz 0 rfl (k := 1)
  have H5 := Lib.hid (KK.set 0 rfl (k := 1) (.slice (some ⟨b, 0, none⟩) m c))
  clear K4 KK
  go_upto_region 9 with (fail)
  clear c1 u1
  generalize w4.setCell ⟨gc, 1, none⟩ (.slice (some ⟨b, 0, none⟩) m c) = w5 at H5 ⊢
  have c1 := H5.out.cell 0 rfl (k := 1) rfl
  have hnew := Lib.hid (Rd.of_own (own_new w5 129 #[.pointer (some ⟨g, 0, none⟩)] 1 1 rfl (by simp [maxLen]) (Nat.le_refl _)))
  go_upto_region 10 with (at_builtin; refine wpList_append_sep (H5.out.alloc _) 1 rfl (.tmp 69) (.tmp 71) 81 rfl 129 ti (.pointer none) 1 8 Tryz.underlying81 hti t0 t1 t2 rfl (by omega) _ m _ rfl rfl _ _ 1 1 _ rfl hnew.out (by simp [Value.oneCell']) (by simp only [maxLen]; omega) (by omega) ?_; intro A6 c6 w6 hc6 hs6 H6'; have H6 := Lib.hid H6'; clear H6'; have c2 := H6.out.cell 0 rfl (k := 1) rfl; have u2 := H6.out.froz 0 rfl (k := 1))
  have H7 := Lib.hid (H6.out.set 0 rfl (k := 1) (.slice A6 (m + 1) c6))
  clear c1 c2 u2 H5 H6
  generalize w6.setCell ⟨gc, 1, none⟩ (.slice A6 (m + 1) c6) = w7 at H7 ⊢
  go_wp2
  refine bodyPost_ret (v := .tuple #[.pointer (some ⟨g, 0, none⟩), .bool true]) (by simp [results, Tryz.results42]) rfl ?_
  have K : Sep w0 w7 (ccI gc (.int .i64 (sz : Int)) (.slice A6 (m + 1) c6) v2 f s st :: .row 129 1 (.slice A6 (m + 1) c6) (m + 1) ((bl.eraseIdx i).flatMap pcell ++ [.pointer (some ⟨g, 0, none⟩)]) :: X :: ((objs bl L ++ J) ++ [pgI gp ⟨np, 0, false⟩])) := H7.out
  have hE := objs_erase (by rw [HBL.out, HLL.out]) HG.out HI.out
  refine ⟨rfl, A6, c6, hc6, [pgI gp ⟨np, 0, false⟩], ?_⟩
  rw [show ptI A6 (m + 1) c6 (bl.eraseIdx i ++ [g]) = .row 129 1 (.slice A6 (m + 1) c6) (m + 1) ((bl.eraseIdx i).flatMap pcell ++ [.pointer (some ⟨g, 0, none⟩)]) by simp only [ptI, List.flatMap_append]; rfl, objs_snoc (by rw [List.length_eraseIdx, List.length_eraseIdx, HBL.out, HLL.out])]
  refine K.perm (List.Perm.cons _ (List.Perm.cons _ (List.Perm.cons _ ?_)))
  rw [← List.append_assoc]
  exact List.Perm.append_right _ (List.Perm.append_right _ (List.perm_append_comm.trans hE.symm))

set_option maxRecDepth 100000 in
set_option maxHeartbeats 3200000 in
theorem use_room (gc sz n c f s np : Nat) (A : Option Addr) (v2 : Value) (st : List Int) (bl : List Nat) (L : List Pg) (X : It) (J : List It) (w0 w : World)
    (hs : Sep w0 w (ccI gc (.int .i64 (sz : Int)) (.slice A n c) v2 f s st :: ptI A n c bl :: X :: (objs bl L ++ J))) (hbl : bl.length = n) (hL : L.length = n) (hn : n ≤ 16) (hlt : n < sz) (ho : ∀ q ∈ L, q.n ≠ np) :
    Calls Tryz.prog 42 #[.pointer (some ⟨gc, 0, none⟩), .int .i64 (np : Int)] w (fun e w' => ∃ A' c' g, e = .returned (.tuple #[.pointer (some ⟨g, 0, none⟩), .bool false]) ∧ n + 1 ≤ c' ∧
      Sep w0 w' (ccI gc (.int .i64 (sz : Int)) (.slice A' (n + 1) c') v2 f s st :: ptI A' (n + 1) c' (bl ++ [g]) :: X :: (objs (bl ++ [g]) (L ++ [⟨np, 0, false⟩]) ++ J))) := by
  obtain ⟨ti, hti, t0, t1, t2⟩ := info_parts ptr_info
  have HA : Hid (∀ k, k < n → numOf L k ≠ (np : Int)) := Lib.hid fun k hk => by
    obtain ⟨q, hq⟩ : ∃ q, L[k]? = some q := ⟨_, List.getElem?_eq_getElem (by omega)⟩
    rw [numOf_at hq]
    have := ho q (List.mem_of_getElem? hq)
    omega
  have HB : Hid (n < n → numOf L n = (np : Int)) := Lib.hid fun h => absurd h (Nat.lt_irrefl _)
  have HO : Hid ((-1 : Int) = if n < n then (n : Int) else -1) := Lib.hid (by rw [if_neg (Nat.lt_irrefl _)])
  clear ho
  have HS := Lib.hid hs
  have HBL := Lib.hid hbl
  have HLL := Lib.hid hL
  clear hs hbl hL
  go_enter Tryz.func42, Tryz.ntmps42
  go_upto_region 1 with (fail)
  have H1 := Lib.hid (HS.out.alloc (.cells #[.int .i64 (np : Int)] 3))
  have hgb : (w.alloc (.cells #[.int .i64 (np : Int)] 3)).cell? ⟨w.heap.size, 0, none⟩ = some (.int .i64 (np : Int)) := (Blk.new w 3 [.int .i64 (np : Int)]).cell (k := 0) rfl
  clear HS
  generalize w.alloc (.cells #[.int .i64 (np : Int)] 3) = w1 at H1 hgb ⊢
  generalize w.heap.size = gb at hgb ⊢
  have c1 := H1.out.cell 0 rfl (k := 1) rfl
  have cI := Lib.hid (pindex_any A n c gb n bl (numOf L) (np : Int) (-1 : Int) w1 (H1.out.rd 1 rfl) HBL.out (by omega) hgb (objs_cells H1.out (by rw [HBL.out, HLL.out])) (by omega) HA.out HB.out HO.out)
  have HGB := Lib.hid hgb
  clear hgb
  go_wp2_with fail
  refine cI.out.mono ?_; rintro en w2 ⟨rfl, hb2⟩
  have H2 := Lib.hid (H1.out.later hb2)
  have hgb : w2.cell? ⟨gb, 0, none⟩ = some (.int .i64 (np : Int)) := (hb2.cell (World.block_lt_of_cell? w1 _ HGB.out)).trans HGB.out
  clear c1 cI H1 hb2 HGB
  go_upto_region 3 with (fail)
  clear hgb
  have H3 := Lib.hid (H2.out.new 134 [.int .i64 (np : Int), .int .i64 0, .bool false])
  clear H2
  generalize w2.alloc (.cells #[.int .i64 (np : Int), .int .i64 0, .bool false] 134) = w3 at H3 ⊢
  generalize w2.heap.size = gp at H3 ⊢
  have c0 := fun z : LaterOf w3 => z.cell (H3.out.cell 0 rfl (k := 0) rfl)
  have c1 := fun z : LaterOf w3 => z.cell (H3.out.cell 0 rfl (k := 1) rfl)
  have z1 : ((n : Int) == (sz : Int)) = false := by simp; omega
  go_upto_region 6 with (fail)
  refine wp_region_later (by kernel_rfl) (by kernel_rfl) ?_
  repeat (go_big_quiet_step (fail))
  refine wpQuiet_nil ?_; intro xw hw'; obtain ⟨xq, hw''⟩ := hw'; obtain ⟨xw0, xh⟩ := xq; change xw = xw0 at hw''; subst hw''
  have H5 := Lib.hid (H3.out.later xh)
  clear H3 c0 c1 xh
  generalize xw = w5 at H5 ⊢
  go_upto_region 9 with (fail)
  have c1 := H5.out.cell 0 rfl (k := 1) rfl
  have hnew := Lib.hid (Rd.of_own (own_new w5 129 #[.pointer (some ⟨gp, 0, none⟩)] 1 1 rfl (by simp [maxLen]) (Nat.le_refl _)))
  go_upto_region 10 with (at_builtin; refine wpList_append_sep (H5.out.alloc _) 1 rfl (.tmp 69) (.tmp 71) 81 rfl 129 ti (.pointer none) 1 8 Tryz.underlying81 hti t0 t1 t2 rfl (by omega) _ n _ rfl rfl _ _ 1 1 _ rfl hnew.out (by simp [Value.oneCell']) (by simp only [maxLen]; omega) (by omega) ?_; intro A6 c6 w6 hc6 hs6 H6'; have H6 := Lib.hid H6'; clear H6'; have c2 := H6.out.cell 0 rfl (k := 1) rfl; have u2 := H6.out.froz 0 rfl (k := 1))
  have H7 := Lib.hid (H6.out.set 0 rfl (k := 1) (.slice A6 (n + 1) c6))
  clear c1 c2 u2 H5 H6
  generalize w6.setCell ⟨gc, 1, none⟩ (.slice A6 (n + 1) c6) = w7 at H7 ⊢
  go_wp2
  refine bodyPost_ret (v := .tuple #[.pointer (some ⟨gp, 0, none⟩), .bool false]) (by simp [results, Tryz.results42]) rfl ?_
  have K : Sep w0 w7 (ccI gc (.int .i64 (sz : Int)) (.slice A6 (n + 1) c6) v2 f s st :: .row 129 1 (.slice A6 (n + 1) c6) (n + 1) (bl.flatMap pcell ++ [.pointer (some ⟨gp, 0, none⟩)]) :: X :: ((objs bl L ++ J) ++ [pgI gp ⟨np, 0, false⟩])) := H7.out
  refine ⟨A6, c6, gp, rfl, hc6, ?_⟩
  rw [show ptI A6 (n + 1) c6 (bl ++ [gp]) = .row 129 1 (.slice A6 (n + 1) c6) (n + 1) (bl.flatMap pcell ++ [.pointer (some ⟨gp, 0, none⟩)]) by simp only [ptI, List.flatMap_append]; rfl, objs_snoc (by rw [HBL.out, HLL.out])]
  refine K.perm (List.Perm.cons _ (List.Perm.cons _ (List.Perm.cons _ ?_)))
  rw [List.append_assoc, List.append_assoc]
  exact List.Perm.append_left _ List.perm_append_comm

set_option maxRecDepth 100000 in
set_option maxHeartbeats 3200000 in
theorem use_full (gc n m c f s np gq : Nat) (A : Option Addr) (v2 : Value) (st : List Int) (bt : List Nat) (q : Pg) (t : List Pg) (X : It) (J : List It) (w0 w : World)
    (hs : Sep w0 w (ccI gc (.int .i64 (n : Int)) (.slice A n c) v2 f s st :: ptI A n c (gq :: bt) :: X :: (objs (gq :: bt) (q :: t) ++ J))) (hbl : bt.length = m) (hL : t.length = m) (hn : n ≤ 16) (hnm : n = m + 1) (hc : n ≤ c) (ho : ∀ x ∈ q :: t, x.n ≠ np) (hq : q.n < 16) (hst : st.length = 16) (hb : s < 140737488355328) :
    Calls Tryz.prog 42 #[.pointer (some ⟨gc, 0, none⟩), .int .i64 (np : Int)] w (fun e w' => ∃ A' c' g, e = .returned (.tuple #[.pointer (some ⟨g, 0, none⟩), .bool false]) ∧ n ≤ c' ∧
      Sep w0 w' (ccI gc (.int .i64 (n : Int)) (.slice A' n c') v2 f (s + cnt1 q) (put1 q st) :: ptI A' n c' (bt ++ [g]) :: X :: (objs (bt ++ [g]) (t ++ [⟨np, 0, false⟩]) ++ J))) := by
  obtain ⟨ti, hti, t0, t1, t2⟩ := info_parts ptr_info
  have HBT := Lib.hid hbl
  have HLT := Lib.hid hL
  obtain ⟨bl, HEB⟩ : ∃ bl, Hid (bl = gq :: bt) := ⟨_, Lib.hid rfl⟩
  obtain ⟨L, HEL⟩ : ∃ L, Hid (L = q :: t) := ⟨_, Lib.hid rfl⟩
  rw [← HEB.out, ← HEL.out] at hs
  rw [← HEL.out] at ho
  have hbl : bl.length = n := by rw [HEB.out, List.length_cons, HBT.out, hnm]
  have hL : L.length = n := by rw [HEL.out, List.length_cons, HLT.out, hnm]
  have HNM := Lib.hid hnm
  have HQ := Lib.hid hq
  have HST := Lib.hid hst
  have n0 : 0 < n := by omega
  clear hnm hq hst
  have HA : Hid (∀ k, k < n → numOf L k ≠ (np : Int)) := Lib.hid fun k hk => by
    obtain ⟨q, hq⟩ : ∃ q, L[k]? = some q := ⟨_, List.getElem?_eq_getElem (by omega)⟩
    rw [numOf_at hq]
    have := ho q (List.mem_of_getElem? hq)
    omega
  have HB : Hid (n < n → numOf L n = (np : Int)) := Lib.hid fun h => absurd h (Nat.lt_irrefl _)
  have HO : Hid ((-1 : Int) = if n < n then (n : Int) else -1) := Lib.hid (by rw [if_neg (Nat.lt_irrefl _)])
  clear ho
  have HS := Lib.hid hs
  have HBL := Lib.hid hbl
  have HLL := Lib.hid hL
  clear hs hbl hL
  go_enter Tryz.func42, Tryz.ntmps42
  go_upto_region 1 with (fail)
  have H1 := Lib.hid (HS.out.alloc (.cells #[.int .i64 (np : Int)] 3))
  have hgb : (w.alloc (.cells #[.int .i64 (np : Int)] 3)).cell? ⟨w.heap.size, 0, none⟩ = some (.int .i64 (np : Int)) := (Blk.new w 3 [.int .i64 (np : Int)]).cell (k := 0) rfl
  clear HS
  generalize w.alloc (.cells #[.int .i64 (np : Int)] 3) = w1 at H1 hgb ⊢
  generalize w.heap.size = gb at hgb ⊢
  have c1 := H1.out.cell 0 rfl (k := 1) rfl
  have cI := Lib.hid (pindex_any A n c gb n bl (numOf L) (np : Int) (-1 : Int) w1 (H1.out.rd 1 rfl) HBL.out (by omega) hgb (objs_cells H1.out (by rw [HBL.out, HLL.out])) (by omega) HA.out HB.out HO.out)
  have HGB := Lib.hid hgb
  clear hgb
  go_wp2_with fail
  refine cI.out.mono ?_; rintro en w2 ⟨rfl, hb2⟩
  have H2 := Lib.hid (H1.out.later hb2)
  have hgb : w2.cell? ⟨gb, 0, none⟩ = some (.int .i64 (np : Int)) := (hb2.cell (World.block_lt_of_cell? w1 _ HGB.out)).trans HGB.out
  clear c1 cI H1 hb2 HGB
  go_upto_region 3 with (fail)
  clear hgb
  have H3 := Lib.hid (H2.out.new 134 [.int .i64 (np : Int), .int .i64 0, .bool false])
  clear H2
  generalize w2.alloc (.cells #[.int .i64 (np : Int), .int .i64 0, .bool false] 134) = w3 at H3 ⊢
  generalize w2.heap.size = gp at H3 ⊢
  have c0 := fun z : LaterOf w3 => z.cell (H3.out.cell 0 rfl (k := 0) rfl)
  have c1 := fun z : LaterOf w3 => z.cell (H3.out.cell 0 rfl (k := 1) rfl)
  have z1 : ((n : Int) == (n : Int)) = true := by simp
  go_upto_region 6 with (fail)
  refine wp_region_later (by kernel_rfl) (by kernel_rfl) ?_
  repeat (go_big_quiet_step (fail))
  refine wpQuiet_nil ?_; intro xw hw'; obtain ⟨xq, hw''⟩ := hw'; obtain ⟨xw0, xh⟩ := xq; change xw = xw0 at hw''; subst hw''
  have H5 := Lib.hid (H3.out.later xh)
  clear H3 c0 c1 xh
  rw [HEB.out, HEL.out] at H5
  obtain ⟨b, rfl, _, hat⟩ := H5.out.rowAt 1 rfl n0
  have e1 : xw.cell? ⟨b, 0, none⟩ = some (.pointer (some ⟨gq, 0, none⟩)) := (hat 0).1 _ rfl
  have c1 := H5.out.cell 0 rfl (k := 1) rfl
  have cC := Lib.hid (clean_any gc gq 2 f s _ _ _ st q _ w0 xw H5.out rfl HQ.out HST.out hb)
  clear hat H5
  go_wp2_with fail
  refine cC.out.mono ?_; rintro en w3' ⟨rfl, K3⟩
  clear c1 e1 cC
  have c1 := K3.cell 0 rfl (k := 1) rfl
  have KD := Lib.hid (K3.perm (List.Perm.swap _ _ _))
  clear K3
  have hnm := HNM.out
  clear HNM z1 n0
  subst hnm
  have cD := Lib.hid (delete_any w0 w3' _ (some ⟨b, 0, none⟩) m c 0 _ KD.out (by omega) hc (by omega) (pcell_one (gq :: bt)))
  rw [show ((0 : Nat) : Int) = 0 from rfl, Int.zero_add] at cD
  clear KD
  go_wp2_with fail
  refine cD.out.mono ?_; rintro en w4 ⟨rfl, K4⟩
  rw [erase_pt] at K4
  have KK := K4.perm (List.Perm.swap _ _ _)
  have c1 := KK.cell 0 rfl (k := 1) rfl
  have u1 := KK.froz 0 rfl (k := 1)
  have H5 := Lib.hid (KK.set 0 rfl (k := 1) (.slice (some ⟨b, 0, none⟩) m c))
  clear K4 KK
  go_upto_region 9 with (fail)
  clear c1 u1
  generalize w4.setCell ⟨gc, 1, none⟩ (.slice (some ⟨b, 0, none⟩) m c) = w5 at H5 ⊢
  have c1 := H5.out.cell 0 rfl (k := 1) rfl
  have hnew := Lib.hid (Rd.of_own (own_new w5 129 #[.pointer (some ⟨gp, 0, none⟩)] 1 1 rfl (by simp [maxLen]) (Nat.le_refl _)))
  go_upto_region 10 with (at_builtin; refine wpList_append_sep (H5.out.alloc _) 1 rfl (.tmp 69) (.tmp 71) 81 rfl 129 ti (.pointer none) 1 8 Tryz.underlying81 hti t0 t1 t2 rfl (by omega) _ m _ rfl rfl _ _ 1 1 _ rfl hnew.out (by simp [Value.oneCell']) (by simp only [maxLen]; omega) (by omega) ?_; intro A6 c6 w6 hc6 hs6 H6'; have H6 := Lib.hid H6'; clear H6'; have c2 := H6.out.cell 0 rfl (k := 1) rfl; have u2 := H6.out.froz 0 rfl (k := 1))
  have H7 := Lib.hid (H6.out.set 0 rfl (k := 1) (.slice A6 (m + 1) c6))
  clear c1 c2 u2 H5 H6
  generalize w6.setCell ⟨gc, 1, none⟩ (.slice A6 (m + 1) c6) = w7 at H7 ⊢
  go_wp2
  refine bodyPost_ret (v := .tuple #[.pointer (some ⟨gp, 0, none⟩), .bool false]) (by simp [results, Tryz.results42]) rfl ?_
  have K : Sep w0 w7 (ccI gc (.int .i64 ((m + 1 : Nat) : Int)) (.slice A6 (m + 1) c6) v2 f (s + cnt1 q) (put1 q st) :: .row 129 1 (.slice A6 (m + 1) c6) (m + 1) (bt.flatMap pcell ++ [.pointer (some ⟨gp, 0, none⟩)]) :: X :: (pgI gq q.clean :: ((objs bt t ++ J) ++ [pgI gp ⟨np, 0, false⟩]))) := H7.out
  refine ⟨A6, c6, gp, rfl, hc6, ?_⟩
  rw [show ptI A6 (m + 1) c6 (bt ++ [gp]) = .row 129 1 (.slice A6 (m + 1) c6) (m + 1) (bt.flatMap pcell ++ [.pointer (some ⟨gp, 0, none⟩)]) by simp only [ptI, List.flatMap_append]; rfl, objs_snoc (by rw [HBT.out, HLT.out])]
  have K2 := K.sub (List.Sublist.cons_cons _ (List.Sublist.cons_cons _ (List.Sublist.cons_cons _ (List.sublist_cons_self _ _))))
  refine K2.perm (List.Perm.cons _ (List.Perm.cons _ (List.Perm.cons _ ?_)))
  rw [List.append_assoc, List.append_assoc]
  exact List.Perm.append_left _ List.perm_append_comm
end Ca
end Go.Proofs.YtjopiepfjbnkbaaGreatDoor
