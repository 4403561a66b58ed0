/-
  Walk of (*store).do. Conditions: none beyond the theorem's own premises.
-/
import Derived.Test.YtgfldhdmdeeknaaGreatDoorSoW
import Derived.Test.YtgfldhdmdeeknaaGreatDoorBase
namespace Go.Proofs.YtgfldhdmdeeknaaGreatDoor
open Go.RowKit Go.Shelf
set_option linter.unusedVariables false
namespace So
open Dr

abbrev aC (g : Nat) (a : An) : It := .cells g 53 a.cells
theorem getSet_self {l : List It} {i : Nat} {x y : It} (h : l[i]? = some x) : (l.set i y)[i]? = some y := by
  rw [List.getElem?_set, if_pos rfl, if_pos (List.getElem?_eq_some_iff.1 h).1]
theorem setTwo {w0 w : World} {a b c d : It} {RB : List It} {gy t : Nat} {p q : Value} (H : Sep w0 w (a :: b :: c :: d :: RB)) (iy : Nat) (hy : RB[iy]? = some (.cells gy t [p, q])) (u v : Value) :
    Sep w0 ((w.setCell ⟨gy, 0, none⟩ u).setCell ⟨gy, 1, none⟩ v) (a :: b :: c :: d :: RB.set iy (.cells gy t [u, v])) := by
  have h1 := H.set (iy + 4) (by simpa using hy) (k := 0) u
  have h2 := h1.set (iy + 4) (g := gy) (t := t) (l := [u, q]) (by simpa using getSet_self hy) (k := 1) v
  simpa [List.set_set] using h2

/-- the store in memory, and what it holds -/
def St (w0 w : World) (gS k : Nat) (D : Fs) (C : List Op) (R : List It) : Prop :=
  ∃ gn gd nn nd A n c, C.length = n ∧ nn ≤ k ∧ nd + n ≤ k ∧ Sep w0 w (sC gS gn gd A n c :: fm gn nn (now D C) :: fm gd nd D :: oR A n c C :: R)

set_option maxRecDepth 100000 in
set_option maxHeartbeats 6400000 in
theorem do_any (w0 w : World) (gS k : Nat) (D : Fs) (C : List Op) (R : List It) (o : Op) (er : Int) (dd : ByteArray) (D' : Fs) (C' : List Op)
    (hs : St w0 w gS k D C R) (hw : Way D C o ⟨er, dd⟩ D' C') (hsz : o.nm.size ≤ maxLen) (hCsz : ∀ x ∈ C, x.nm.size ≤ maxLen) (hdt : o.dt.size ≤ 9223372036854775807) (hk : k ≤ 2932031007400) :
    Calls Tryz.prog 23 #[.pointer (some ⟨gS, 0, none⟩), .agg #[.int .i64 o.kind, .string o.nm, .string o.dt, .int .i64 o.keep]] w (fun e w' => e = .returned (.agg #[.int .i64 er, .string dd]) ∧ St w0 w' gS (k + 1) D' C' R) := by
  obtain ⟨ti, hti, t0, t1, t2⟩ := info_parts op_info
  obtain ⟨gn, gd, nn, nd, A, n, c, hl, hnk, hdk, H⟩ := hs
  have hnm : nn < maxLen := by unfold maxLen; omega
  have H1 := H.new 56 o.cells
  have H2 := H1.new 53 [.int .i64 0, .string ⟨#[]⟩]
  obtain ⟨RB, HRB⟩ : ∃ RB, RB = (R ++ [oC w.heap.size o]) ++ [aC (w.heap.size + 1) ⟨0, ⟨#[]⟩⟩] := ⟨_, rfl⟩
  have hsz1 : (w.alloc (.cells o.cells.toArray 56)).heap.size = w.heap.size + 1 := by simp
  rw [hsz1] at H2
  have HS1 : Hid (Sep w0 ((w.alloc (.cells #[.int .i64 o.kind, .string o.nm, .string o.dt, .int .i64 o.keep] 56)).alloc (.cells #[.int .i64 0, .string ⟨#[]⟩] 53)) (sC gS gn gd A n c :: fm gn nn (now D C) :: fm gd nd D :: oR A n c C :: RB)) := Lib.hid (by rw [HRB]; exact H2)
  obtain ⟨ix, hix⟩ : ∃ ix, ix = R.length := ⟨_, rfl⟩
  obtain ⟨iy, hiy⟩ : ∃ iy, iy = R.length + 1 := ⟨_, rfl⟩
  have HBX : Hid (RB[ix]? = some (oC w.heap.size o)) := Lib.hid (by rw [HRB, hix]; simp)
  have HBY : Hid (RB[iy]? = some (aC (w.heap.size + 1) ⟨0, ⟨#[]⟩⟩)) := Lib.hid (by rw [HRB, hiy]; simp)
  have HSUB : Hid (∀ y, R.Sublist (RB.set iy y)) := Lib.hid (fun y => by
    rw [HRB, hiy, List.append_assoc, List.set_append_right _ _ (by omega)]
    exact List.sublist_append_left _ _)
  have HL := Lib.hid hl
  have HCS := Lib.hid hCsz
  have HW := Lib.hid hw
  clear H H1 H2 HRB hix hiy hl hCsz hw hsz1
  go_enter Tryz.func23, Tryz.ntmps23
  go_upto_region 1 with (fail)
  generalize hgw : ((w.alloc (.cells #[.int .i64 o.kind, .string o.nm, .string o.dt, .int .i64 o.keep] 56)).alloc (.cells #[.int .i64 0, .string ⟨#[]⟩] 53)) = w1 at HS1 ⊢
  clear hgw
  generalize w.heap.size + 1 = gy at HBY ⊢
  generalize w.heap.size = gx at HBX ⊢
  have e0 := HS1.out.cell (ix + 4) (by simpa using HBX.out) (k := 0) rfl
  have e1 := HS1.out.cell (ix + 4) (by simpa using HBX.out) (k := 1) rfl
  have e2 := HS1.out.cell (ix + 4) (by simpa using HBX.out) (k := 2) rfl
  have e3 := HS1.out.cell (ix + 4) (by simpa using HBX.out) (k := 3) rfl
  try simp only at e0 e1 e2 e3
  have cC := Lib.hid (check_any w0 w1 gS gn gd nn A n c D C _ o er dd D' C' HS1.out HW.out hsz hdt (by omega))
  go_wp2_with fail
  refine cC.out.mono ?_; rintro en w2 ⟨rfl, hb2⟩
  have HS := Lib.hid (HS1.out.later hb2)
  clear cC HS1 hb2 e0 e1 e2 e3
  have e0 := HS.out.cell (ix + 4) (by simpa using HBX.out) (k := 0) rfl
  have e3 := HS.out.cell (ix + 4) (by simpa using HBX.out) (k := 3) rfl
  have c2 := HS.out.cell 0 rfl (k := 2) rfl
  try simp only at e0 e3
  have hw := HW.out
  clear HW
  cases hw with
  | low h =>
    clear e0 e3 c2
    have f0 := HS.out.cell (iy + 4) (by simpa using HBY.out) (k := 0) rfl
    have f1 := HS.out.cell (iy + 4) (by simpa using HBY.out) (k := 1) rfl
    have u0 := HS.out.froz (iy + 4) (by simpa using HBY.out) (k := 0)
    have u1 := HS.out.froz (iy + 4) (by simpa using HBY.out) (k := 1)
    have HK8 := Lib.hid (setTwo HS.out iy HBY.out (.int .i64 5) (.string ⟨#[]⟩))
    have HK9 := Lib.hid (HK8.out.sub (List.Sublist.cons_cons _ (List.Sublist.cons_cons _ (List.Sublist.cons_cons _ (List.Sublist.cons_cons _ (HSUB.out _))))))
    have f3 := HK8.out.cell (iy + 4) (by simpa using getSet_self HBY.out) (k := 0) rfl
    have f4 := HK8.out.cell (iy + 4) (by simpa using getSet_self HBY.out) (k := 1) rfl
    clear HS
    go_wp2
    refine bodyPost_ret (v := .agg #[.int .i64 5, .string ⟨#[]⟩]) (by simp [results, Tryz.results23, asAddr, Result.andThen, go_sem, f3, f4]) rfl ?_
    exact ⟨rfl, gn, gd, nn, nd, A, n, c, HL.out, by omega, by omega, HK9.out⟩
  | high h =>
    clear e0 e3 c2
    have f0 := HS.out.cell (iy + 4) (by simpa using HBY.out) (k := 0) rfl
    have f1 := HS.out.cell (iy + 4) (by simpa using HBY.out) (k := 1) rfl
    have u0 := HS.out.froz (iy + 4) (by simpa using HBY.out) (k := 0)
    have u1 := HS.out.froz (iy + 4) (by simpa using HBY.out) (k := 1)
    have HK8 := Lib.hid (setTwo HS.out iy HBY.out (.int .i64 5) (.string ⟨#[]⟩))
    have HK9 := Lib.hid (HK8.out.sub (List.Sublist.cons_cons _ (List.Sublist.cons_cons _ (List.Sublist.cons_cons _ (List.Sublist.cons_cons _ (HSUB.out _))))))
    have f3 := HK8.out.cell (iy + 4) (by simpa using getSet_self HBY.out) (k := 0) rfl
    have f4 := HK8.out.cell (iy + 4) (by simpa using getSet_self HBY.out) (k := 1) rfl
    clear HS
    go_wp2
    refine bodyPost_ret (v := .agg #[.int .i64 5, .string ⟨#[]⟩]) (by simp [results, Tryz.results23, asAddr, Result.andThen, go_sem, f3, f4]) rfl ?_
    exact ⟨rfl, gn, gd, nn, nd, A, n, c, HL.out, by omega, by omega, HK9.out⟩
  | bad h h1 =>
    clear e0 e3 c2
    have f0 := HS.out.cell (iy + 4) (by simpa using HBY.out) (k := 0) rfl
    have f1 := HS.out.cell (iy + 4) (by simpa using HBY.out) (k := 1) rfl
    have u0 := HS.out.froz (iy + 4) (by simpa using HBY.out) (k := 0)
    have u1 := HS.out.froz (iy + 4) (by simpa using HBY.out) (k := 1)
    have HK8 := Lib.hid (setTwo HS.out iy HBY.out (.int .i64 2) (.string ⟨#[]⟩))
    have HK9 := Lib.hid (HK8.out.sub (List.Sublist.cons_cons _ (List.Sublist.cons_cons _ (List.Sublist.cons_cons _ (List.Sublist.cons_cons _ (HSUB.out _))))))
    have f3 := HK8.out.cell (iy + 4) (by simpa using getSet_self HBY.out) (k := 0) rfl
    have f4 := HK8.out.cell (iy + 4) (by simpa using getSet_self HBY.out) (k := 1) rfl
    clear HS
    go_wp2
    refine bodyPost_ret (v := .agg #[.int .i64 2, .string ⟨#[]⟩]) (by simp [results, Tryz.results23, asAddr, Result.andThen, go_sem, f3, f4]) rfl ?_
    exact ⟨rfl, gn, gd, nn, nd, A, n, c, HL.out, by omega, by omega, HK9.out⟩
  | long h h1 h2 =>
    clear e0 e3 c2
    have f0 := HS.out.cell (iy + 4) (by simpa using HBY.out) (k := 0) rfl
    have f1 := HS.out.cell (iy + 4) (by simpa using HBY.out) (k := 1) rfl
    have u0 := HS.out.froz (iy + 4) (by simpa using HBY.out) (k := 0)
    have u1 := HS.out.froz (iy + 4) (by simpa using HBY.out) (k := 1)
    have HK8 := Lib.hid (setTwo HS.out iy HBY.out (.int .i64 2) (.string ⟨#[]⟩))
    have HK9 := Lib.hid (HK8.out.sub (List.Sublist.cons_cons _ (List.Sublist.cons_cons _ (List.Sublist.cons_cons _ (List.Sublist.cons_cons _ (HSUB.out _))))))
    have f3 := HK8.out.cell (iy + 4) (by simpa using getSet_self HBY.out) (k := 0) rfl
    have f4 := HK8.out.cell (iy + 4) (by simpa using getSet_self HBY.out) (k := 1) rfl
    clear HS
    go_wp2
    refine bodyPost_ret (v := .agg #[.int .i64 2, .string ⟨#[]⟩]) (by simp [results, Tryz.results23, asAddr, Result.andThen, go_sem, f3, f4]) rfl ?_
    exact ⟨rfl, gn, gd, nn, nd, A, n, c, HL.out, by omega, by omega, HK9.out⟩
  | full h h1 h2 h3 m h4 h5 =>
    clear e0 e3 c2
    have f0 := HS.out.cell (iy + 4) (by simpa using HBY.out) (k := 0) rfl
    have f1 := HS.out.cell (iy + 4) (by simpa using HBY.out) (k := 1) rfl
    have u0 := HS.out.froz (iy + 4) (by simpa using HBY.out) (k := 0)
    have u1 := HS.out.froz (iy + 4) (by simpa using HBY.out) (k := 1)
    have HK8 := Lib.hid (setTwo HS.out iy HBY.out (.int .i64 4) (.string ⟨#[]⟩))
    have HK9 := Lib.hid (HK8.out.sub (List.Sublist.cons_cons _ (List.Sublist.cons_cons _ (List.Sublist.cons_cons _ (List.Sublist.cons_cons _ (HSUB.out _))))))
    have f3 := HK8.out.cell (iy + 4) (by simpa using getSet_self HBY.out) (k := 0) rfl
    have f4 := HK8.out.cell (iy + 4) (by simpa using getSet_self HBY.out) (k := 1) rfl
    clear HS
    go_wp2
    refine bodyPost_ret (v := .agg #[.int .i64 4, .string ⟨#[]⟩]) (by simp [results, Tryz.results23, asAddr, Result.andThen, go_sem, f3, f4]) rfl ?_
    exact ⟨rfl, gn, gd, nn, nd, A, n, c, HL.out, by omega, by omega, HK9.out⟩
  | none2 h h3 =>
    clear e0 e3 c2
    have f0 := HS.out.cell (iy + 4) (by simpa using HBY.out) (k := 0) rfl
    have f1 := HS.out.cell (iy + 4) (by simpa using HBY.out) (k := 1) rfl
    have u0 := HS.out.froz (iy + 4) (by simpa using HBY.out) (k := 0)
    have u1 := HS.out.froz (iy + 4) (by simpa using HBY.out) (k := 1)
    have HK8 := Lib.hid (setTwo HS.out iy HBY.out (.int .i64 3) (.string ⟨#[]⟩))
    have HK9 := Lib.hid (HK8.out.sub (List.Sublist.cons_cons _ (List.Sublist.cons_cons _ (List.Sublist.cons_cons _ (List.Sublist.cons_cons _ (HSUB.out _))))))
    have f3 := HK8.out.cell (iy + 4) (by simpa using getSet_self HBY.out) (k := 0) rfl
    have f4 := HK8.out.cell (iy + 4) (by simpa using getSet_self HBY.out) (k := 1) rfl
    clear HS
    go_wp2
    refine bodyPost_ret (v := .agg #[.int .i64 3, .string ⟨#[]⟩]) (by simp [results, Tryz.results23, asAddr, Result.andThen, go_sem, f3, f4]) rfl ?_
    exact ⟨rfl, gn, gd, nn, nd, A, n, c, HL.out, by omega, by omega, HK9.out⟩
  | none3 h h3 =>
    clear e0 e3 c2
    have f0 := HS.out.cell (iy + 4) (by simpa using HBY.out) (k := 0) rfl
    have f1 := HS.out.cell (iy + 4) (by simpa using HBY.out) (k := 1) rfl
    have u0 := HS.out.froz (iy + 4) (by simpa using HBY.out) (k := 0)
    have u1 := HS.out.froz (iy + 4) (by simpa using HBY.out) (k := 1)
    have HK8 := Lib.hid (setTwo HS.out iy HBY.out (.int .i64 3) (.string ⟨#[]⟩))
    have HK9 := Lib.hid (HK8.out.sub (List.Sublist.cons_cons _ (List.Sublist.cons_cons _ (List.Sublist.cons_cons _ (List.Sublist.cons_cons _ (HSUB.out _))))))
    have f3 := HK8.out.cell (iy + 4) (by simpa using getSet_self HBY.out) (k := 0) rfl
    have f4 := HK8.out.cell (iy + 4) (by simpa using getSet_self HBY.out) (k := 1) rfl
    clear HS
    go_wp2
    refine bodyPost_ret (v := .agg #[.int .i64 3, .string ⟨#[]⟩]) (by simp [results, Tryz.results23, asAddr, Result.andThen, go_sem, f3, f4]) rfl ?_
    exact ⟨rfl, gn, gd, nn, nd, A, n, c, HL.out, by omega, by omega, HK9.out⟩
  | before h h1 =>
    clear e0 e3 c2
    have f0 := HS.out.cell (iy + 4) (by simpa using HBY.out) (k := 0) rfl
    have f1 := HS.out.cell (iy + 4) (by simpa using HBY.out) (k := 1) rfl
    have u0 := HS.out.froz (iy + 4) (by simpa using HBY.out) (k := 0)
    have u1 := HS.out.froz (iy + 4) (by simpa using HBY.out) (k := 1)
    have HK8 := Lib.hid (setTwo HS.out iy HBY.out (.int .i64 2) (.string ⟨#[]⟩))
    have HK9 := Lib.hid (HK8.out.sub (List.Sublist.cons_cons _ (List.Sublist.cons_cons _ (List.Sublist.cons_cons _ (List.Sublist.cons_cons _ (HSUB.out _))))))
    have f3 := HK8.out.cell (iy + 4) (by simpa using getSet_self HBY.out) (k := 0) rfl
    have f4 := HK8.out.cell (iy + 4) (by simpa using getSet_self HBY.out) (k := 1) rfl
    clear HS
    go_wp2
    refine bodyPost_ret (v := .agg #[.int .i64 2, .string ⟨#[]⟩]) (by simp [results, Tryz.results23, asAddr, Result.andThen, go_sem, f3, f4]) rfl ?_
    exact ⟨rfl, gn, gd, nn, nd, A, n, c, HL.out, by omega, by omega, HK9.out⟩
  | fresh h h1 h2 h3 m h4 h5 =>
    rw [h] at e0
    clear h h1 h2 h3 h4 h5
    go_upto_region 5 with (fail)
    have c0 := fun z : LaterOf w2 => (HS.out.later z.h).cell 0 rfl (k := 0) rfl
    have e0 := fun z : LaterOf w2 => (HS.out.later z.h).cell (ix + 4) (by simpa using HBX.out) (k := 0) rfl
    have e1 := fun z : LaterOf w2 => (HS.out.later z.h).cell (ix + 4) (by simpa using HBX.out) (k := 1) rfl
    have e2 := fun z : LaterOf w2 => (HS.out.later z.h).cell (ix + 4) (by simpa using HBX.out) (k := 2) rfl
    have e3 := fun z : LaterOf w2 => (HS.out.later z.h).cell (ix + 4) (by simpa using HBX.out) (k := 3) rfl
    try simp only at e0 e1 e2 e3
    (refine wp_region_tail 5 (by kernel_rfl) (by kernel_rfl) ?_; simp only [List.take_succ_cons, List.take_zero, List.drop_succ_cons, List.drop_zero]; repeat (go_big_quiet_step (fail)))
    clear c0 e0 e1 e2 e3
    refine wpQuiet_nil ?_; intro xw hw'; obtain ⟨xq, hw''⟩ := hw'; obtain ⟨xw0, xh⟩ := xq; change xw = xw0 at hw''; subst hw''
    have cA := Lib.hid (apply_any w0 xw _ 1 gn nn (now D C) o (HS.out.later xh) rfl hsz hnm)
    clear HS xh
    go_wp2_with fail
    refine cA.out.mono ?_; rintro en w5 ⟨rfl, n5, h5, hs5⟩
    have HNX : Hid (ap (now D C) o = now D (C ++ [o])) := Lib.hid (now_snoc D C o).symm
    obtain ⟨N1, HN1⟩ : ∃ N1, Hid (ap (now D C) o = N1) := ⟨_, Lib.hid rfl⟩
    have HS : Hid (Sep w0 w5 (sC gS gn gd A n c :: fm gn n5 N1 :: fm gd nd D :: oR A n c C :: RB)) := Lib.hid (by rw [← HN1.out]; exact hs5)
    have HNL : Hid ((C ++ [o]).length = n + 1) := Lib.hid (by rw [List.length_append, HL.out]; rfl)
    have HN5 : Hid (n5 ≤ k + 1) := Lib.hid (by omega)
    have HND : Hid (nd + (n + 1) ≤ k + 1) := Lib.hid (by omega)
    clear hs5 cA h5
    go_upto_region 6 with (fail)
    refine wp_region_inv0 (fun ac0 L ac w' => ∃ x21 x22 x23 x24 x25 x26 x27 x28 x29 x30, ac = turn ac0 [(21, x21), (22, x22), (23, x23), (24, x24), (25, x25), (26, x26), (27, x27), (28, x28), (29, x29), (30, x30)] ∧ (L 0 = true → x21 = .pointer (some ⟨gS, 0, none⟩)) ∧ (L 1 = true → x22 = .pointer (some ⟨gS, 0, none⟩)) ∧ (L 2 = true → x23 = .pointer (some ⟨gS, 0, none⟩)) ∧ (L 3 = true → x24 = .pointer (some ⟨gS, 2, none⟩)) ∧ (L 4 = true → x25 = .slice A n c) ∧ (L 5 = true → x26 = .agg #[.int .i64 o.kind, .string o.nm, .string o.dt, .int .i64 o.keep]) ∧ (L 8 = true → x29 = .pointer (some ⟨gS, 0, none⟩)) ∧ (L 9 = true → x30 = .pointer (some ⟨gS, 2, none⟩)) ∧ (L 2 = true → L 1 = true) ∧ (L 3 = true → L 2 = true) ∧ (L 4 = true → L 3 = true) ∧ (L 6 = true → L 5 = true) ∧ (L 7 = true → L 4 = true ∧ L 6 = true) ∧ (L 8 = true → L 0 = true ∧ L 1 = true ∧ L 2 = true ∧ L 3 = true ∧ L 4 = true ∧ L 5 = true ∧ L 6 = true ∧ L 7 = true) ∧ (L 9 = true → L 0 = true ∧ L 1 = true ∧ L 2 = true ∧ L 3 = true ∧ L 4 = true ∧ L 5 = true ∧ L 6 = true ∧ L 7 = true ∧ L 8 = true) ∧ (L 10 = true → L 0 = true ∧ L 1 = true ∧ L 2 = true ∧ L 3 = true ∧ L 4 = true ∧ L 5 = true ∧ L 6 = true ∧ L 7 = true ∧ L 9 = true) ∧ (if L 10 = true then (∃ A' c', x28 = .slice A' (n + 1) c' ∧ n + 1 ≤ c' ∧ Sep w0 w' (sC gS gn gd A' (n + 1) c' :: fm gn n5 N1 :: fm gd nd D :: .row 56 4 (.slice A' (n + 1) c') (n + 1) (C.flatMap Op.cells ++ o.cells) :: RB)) else (if L 7 = true then (∃ A' c', x28 = .slice A' (n + 1) c' ∧ n + 1 ≤ c' ∧ Sep w0 w' (sC gS gn gd A n c :: fm gn n5 N1 :: fm gd nd D :: .row 56 4 (.slice A' (n + 1) c') (n + 1) (C.flatMap Op.cells ++ o.cells) :: RB)) else (if L 6 = true then (∃ gv, x27 = .slice (some ⟨gv, 0, none⟩) 1 1 ∧ Sep w0 w' (sC gS gn gd A n c :: fm gn n5 N1 :: fm gd nd D :: oR A n c C :: (RB ++ [oC gv o]))) else Sep w0 w' (sC gS gn gd A n c :: fm gn n5 N1 :: fm gd nd D :: oR A n c C :: RB))))) rfl (by kernel_rfl) ?_ ?_ ?_
    · simp only [turn, List.foldl_cons, List.foldl_nil, List.setIfInBounds_toArray, List.set_cons_succ, List.set_cons_zero]
      exact ⟨_, _, _, _, _, _, _, _, _, _, rfl, (fun h => absurd h (by decide)), (fun h => absurd h (by decide)), (fun h => absurd h (by decide)), (fun h => absurd h (by decide)), (fun h => absurd h (by decide)), (fun h => absurd h (by decide)), (fun h => absurd h (by decide)), (fun h => absurd h (by decide)), (fun h => absurd h (by decide)), (fun h => absurd h (by decide)), (fun h => absurd h (by decide)), (fun h => absurd h (by decide)), (fun h => absurd h (by decide)), (fun h => absurd h (by decide)), (fun h => absurd h (by decide)), (fun h => absurd h (by decide)), by simpa using HS.out.drew⟩
    · rintro L ac w' i o ⟨x21, x22, x23, x24, x25, x26, x27, x28, x29, x30, ha, p0, p1, p2, p3, p4, p5, p8, p9, q2, q3, q4, q6, q7, q8, q9, q10, hS⟩ ho hi he
      simp only [turn, List.foldl_cons, List.foldl_nil, List.setIfInBounds_toArray, List.set_cons_succ, List.set_cons_zero] at ha ⊢
      subst ha
      rcases i with _|_|_|_|_|_|_|_|_|_|_|i
      all_goals cases ho
      all_goals simp [Region.binds] at he
      · have h8 : L 8 = false := by cases hh : L 8 with | false => rfl | true => (have hq := q8 hh; simp [hi] at hq)
        have h9 : L 9 = false := by cases hh : L 9 with | false => rfl | true => (have hq := q9 hh; simp [hi] at hq)
        have h10 : L 10 = false := by cases hh : L 10 with | false => rfl | true => (have hq := q10 hh; simp [hi] at hq)
        refine wpOp_step rfl (fun K hK => ?_)
        go_simp
        exact hK _ _ ⟨_, _, _, _, _, _, _, _, _, _, rfl, (fun _ => rfl), (by first | exact p1 | exact fun _ => rfl), (by first | exact p2 | exact fun _ => rfl), (by first | exact p3 | exact fun _ => rfl), (by first | exact p4 | exact fun _ => rfl), (by first | exact p5 | exact fun _ => rfl), (by simp [h8]), (by simp [h9]), (by simpa using q2), (by simpa using q3), (by simpa using q4), (by simpa using q6), (by simpa using q7), (by simp [h8]), (by simp [h9]), (by simp [h10]), (by simpa [h8, h9, h10] using hS)⟩
      · have h2 : L 2 = false := by cases hh : L 2 with | false => rfl | true => (have hq := q2 hh; simp [hi] at hq)
        have h8 : L 8 = false := by cases hh : L 8 with | false => rfl | true => (have hq := q8 hh; simp [hi] at hq)
        have h9 : L 9 = false := by cases hh : L 9 with | false => rfl | true => (have hq := q9 hh; simp [hi] at hq)
        have h10 : L 10 = false := by cases hh : L 10 with | false => rfl | true => (have hq := q10 hh; simp [hi] at hq)
        have h3 : L 3 = false := by cases hh : L 3 with | false => rfl | true => (have hq := q3 hh; simp [h2] at hq)
        have h4 : L 4 = false := by cases hh : L 4 with | false => rfl | true => (have hq := q4 hh; simp [h3] at hq)
        have h7 : L 7 = false := by cases hh : L 7 with | false => rfl | true => (have hq := q7 hh; simp [h4] at hq)
        refine wpOp_step rfl (fun K hK => ?_)
        go_simp
        exact hK _ _ ⟨_, _, _, _, _, _, _, _, _, _, rfl, (by first | exact p0 | exact fun _ => rfl), (fun _ => rfl), (by simp [h2]), (by simp [h3]), (by simp [h4]), (by first | exact p5 | exact fun _ => rfl), (by simp [h8]), (by simp [h9]), (by simp [h2]), (by simp [h3]), (by simp [h4]), (by simpa using q6), (by simp [h7]), (by simp [h8]), (by simp [h9]), (by simp [h10]), (by simpa [h2, h8, h9, h10, h3, h4, h7] using hS)⟩
      · have h3 : L 3 = false := by cases hh : L 3 with | false => rfl | true => (have hq := q3 hh; simp [hi] at hq)
        have h8 : L 8 = false := by cases hh : L 8 with | false => rfl | true => (have hq := q8 hh; simp [hi] at hq)
        have h9 : L 9 = false := by cases hh : L 9 with | false => rfl | true => (have hq := q9 hh; simp [hi] at hq)
        have h10 : L 10 = false := by cases hh : L 10 with | false => rfl | true => (have hq := q10 hh; simp [hi] at hq)
        have h4 : L 4 = false := by cases hh : L 4 with | false => rfl | true => (have hq := q4 hh; simp [h3] at hq)
        have h7 : L 7 = false := by cases hh : L 7 with | false => rfl | true => (have hq := q7 hh; simp [h4] at hq)
        obtain rfl := p1 (by simp [he])
        refine wpOp_step rfl (fun K hK => ?_)
        go_simp
        exact hK _ _ ⟨_, _, _, _, _, _, _, _, _, _, rfl, (by first | exact p0 | exact fun _ => rfl), (by first | exact p1 | exact fun _ => rfl), (fun _ => rfl), (by simp [h3]), (by simp [h4]), (by first | exact p5 | exact fun _ => rfl), (by simp [h8]), (by simp [h9]), (by simp [he]), (by simp [h3]), (by simp [h4]), (by simpa using q6), (by simp [h7]), (by simp [h8]), (by simp [h9]), (by simp [h10]), (by simpa [h3, h8, h9, h10, h4, h7] using hS)⟩
      · have h4 : L 4 = false := by cases hh : L 4 with | false => rfl | true => (have hq := q4 hh; simp [hi] at hq)
        have h8 : L 8 = false := by cases hh : L 8 with | false => rfl | true => (have hq := q8 hh; simp [hi] at hq)
        have h9 : L 9 = false := by cases hh : L 9 with | false => rfl | true => (have hq := q9 hh; simp [hi] at hq)
        have h10 : L 10 = false := by cases hh : L 10 with | false => rfl | true => (have hq := q10 hh; simp [hi] at hq)
        have h7 : L 7 = false := by cases hh : L 7 with | false => rfl | true => (have hq := q7 hh; simp [h4] at hq)
        obtain rfl := p2 (by simp [he])
        refine wpOp_step rfl (fun K hK => ?_)
        go_simp
        exact hK _ _ ⟨_, _, _, _, _, _, _, _, _, _, rfl, (by first | exact p0 | exact fun _ => rfl), (by first | exact p1 | exact fun _ => rfl), (by first | exact p2 | exact fun _ => rfl), (fun _ => rfl), (by simp [h4]), (by first | exact p5 | exact fun _ => rfl), (by simp [h8]), (by simp [h9]), (by simpa using q2), (by simp [he]), (by simp [h4]), (by simpa using q6), (by simp [h7]), (by simp [h8]), (by simp [h9]), (by simp [h10]), (by simpa [h4, h8, h9, h10, h7] using hS)⟩
      · have h7 : L 7 = false := by cases hh : L 7 with | false => rfl | true => (have hq := q7 hh; simp [hi] at hq)
        have h8 : L 8 = false := by cases hh : L 8 with | false => rfl | true => (have hq := q8 hh; simp [hi] at hq)
        have h9 : L 9 = false := by cases hh : L 9 with | false => rfl | true => (have hq := q9 hh; simp [hi] at hq)
        have h10 : L 10 = false := by cases hh : L 10 with | false => rfl | true => (have hq := q10 hh; simp [hi] at hq)
        obtain rfl := p3 (by simp [he])
        have f0 : w'.cell? ⟨gS, 2, none⟩ = some (.slice A n c) := by
          rw [if_neg (by simp [h10]), if_neg (by simp [h7])] at hS
          split at hS
          · obtain ⟨gv, _, S⟩ := hS
            exact S.cell 0 rfl (k := 2) rfl
          · exact hS.cell 0 rfl (k := 2) rfl
        refine wpOp_step rfl (fun K hK => ?_)
        go_simp
        exact hK _ _ ⟨_, _, _, _, _, _, _, _, _, _, rfl, (by first | exact p0 | exact fun _ => rfl), (by first | exact p1 | exact fun _ => rfl), (by first | exact p2 | exact fun _ => rfl), (by first | exact p3 | exact fun _ => rfl), (fun _ => rfl), (by first | exact p5 | exact fun _ => rfl), (by simp [h8]), (by simp [h9]), (by simpa using q2), (by simpa using q3), (by simp [he]), (by simpa using q6), (by simp [h7]), (by simp [h8]), (by simp [h9]), (by simp [h10]), (by simpa [h7, h8, h9, h10] using hS)⟩
      · have h6 : L 6 = false := by cases hh : L 6 with | false => rfl | true => (have hq := q6 hh; simp [hi] at hq)
        have h8 : L 8 = false := by cases hh : L 8 with | false => rfl | true => (have hq := q8 hh; simp [hi] at hq)
        have h9 : L 9 = false := by cases hh : L 9 with | false => rfl | true => (have hq := q9 hh; simp [hi] at hq)
        have h10 : L 10 = false := by cases hh : L 10 with | false => rfl | true => (have hq := q10 hh; simp [hi] at hq)
        have h7 : L 7 = false := by cases hh : L 7 with | false => rfl | true => (have hq := q7 hh; simp [h6] at hq)
        have hS5 : Sep w0 w' (sC gS gn gd A n c :: fm gn n5 N1 :: fm gd nd D :: oR A n c C :: RB) := by
          rw [if_neg (by simp [h10]), if_neg (by simp [h7]), if_neg (by simp [h6])] at hS
          exact hS
        have hix : (sC gS gn gd A n c :: fm gn n5 N1 :: fm gd nd D :: oR A n c C :: RB)[ix + 4]? = some (oC gx o) := by simpa using HBX.out
        have f0 : w'.cell? ⟨gx, 0, none⟩ = some (.int .i64 o.kind) := hS5.cell (ix + 4) hix (k := 0) rfl
        have f1 : w'.cell? ⟨gx, 1, none⟩ = some (.string o.nm) := hS5.cell (ix + 4) hix (k := 1) rfl
        have f2 : w'.cell? ⟨gx, 2, none⟩ = some (.string o.dt) := hS5.cell (ix + 4) hix (k := 2) rfl
        have f3 : w'.cell? ⟨gx, 3, none⟩ = some (.int .i64 o.keep) := hS5.cell (ix + 4) hix (k := 3) rfl
        clear hS5 hix
        refine wpOp_step rfl (fun K hK => ?_)
        go_simp
        exact hK _ _ ⟨_, _, _, _, _, _, _, _, _, _, rfl, (by first | exact p0 | exact fun _ => rfl), (by first | exact p1 | exact fun _ => rfl), (by first | exact p2 | exact fun _ => rfl), (by first | exact p3 | exact fun _ => rfl), (by first | exact p4 | exact fun _ => rfl), (fun _ => rfl), (by simp [h8]), (by simp [h9]), (by simpa using q2), (by simpa using q3), (by simpa using q4), (by simp [h6]), (by simp [h7]), (by simp [h8]), (by simp [h9]), (by simp [h10]), (by simpa [h6, h8, h9, h10, h7] using hS)⟩
      · have h7 : L 7 = false := by cases hh : L 7 with | false => rfl | true => (have hq := q7 hh; simp [hi] at hq)
        have h8 : L 8 = false := by cases hh : L 8 with | false => rfl | true => (have hq := q8 hh; simp [hi] at hq)
        have h9 : L 9 = false := by cases hh : L 9 with | false => rfl | true => (have hq := q9 hh; simp [hi] at hq)
        have h10 : L 10 = false := by cases hh : L 10 with | false => rfl | true => (have hq := q10 hh; simp [hi] at hq)
        obtain rfl := p5 (by simp [he])
        rw [if_neg (by simp [h10]), if_neg (by simp [h7]), if_neg (by simp [hi])] at hS
        have hN := hS.new 56 o.cells
        refine wpOp_step rfl (fun K hK => ?_)
        go_simp
        exact hK _ _ ⟨_, _, _, _, _, _, _, _, _, _, rfl, (by first | exact p0 | exact fun _ => rfl), (by first | exact p1 | exact fun _ => rfl), (by first | exact p2 | exact fun _ => rfl), (by first | exact p3 | exact fun _ => rfl), (by first | exact p4 | exact fun _ => rfl), (by first | exact p5 | exact fun _ => rfl), (by simp [h8]), (by simp [h9]), (by simpa using q2), (by simpa using q3), (by simpa using q4), (by simp [he]), (by simp [h7]), (by simp [h8]), (by simp [h9]), (by simp [h10]), (by rw [if_neg (by simp [h10]), if_neg (by simp [h7]), if_pos (by simp)]; exact ⟨_, rfl, hN⟩)⟩
      · have h8 : L 8 = false := by cases hh : L 8 with | false => rfl | true => (have hq := q8 hh; simp [hi] at hq)
        have h9 : L 9 = false := by cases hh : L 9 with | false => rfl | true => (have hq := q9 hh; simp [hi] at hq)
        have h10 : L 10 = false := by cases hh : L 10 with | false => rfl | true => (have hq := q10 hh; simp [hi] at hq)
        obtain rfl := p4 (by simp [he])
        have t6 : L 6 = true := by simp [he]
        rw [if_neg (by simp [h10]), if_neg (by simp [hi]), if_pos t6] at hS
        obtain ⟨gv, rfl, hS⟩ := hS
        have hiv : (sC gS gn gd A n c :: fm gn n5 N1 :: fm gd nd D :: oR A n c C :: (RB ++ [oC gv o]))[RB.length + 4]? = some (oC gv o) := by simp
        have hv0 : Rd w' w'.heap.size 4 (some ⟨gv, 0, none⟩) 1 o.cells := ⟨rfl, fun _ => ⟨gv, 0, rfl, Blk.lt (hS.blk (RB.length + 4) hiv), fun j u hj => by rw [Nat.zero_add]; exact hS.cell (RB.length + 4) hiv hj⟩⟩
        refine wpOp_at rfl rfl ?_
        refine oper_append_sep hS 3 (.tmp 25) (.tmp 27) 45 rfl 56 ti (.agg #[.int .i64 0, .string ⟨#[]⟩, .string ⟨#[]⟩, .int .i64 0]) 4 48 Tryz.underlying45 hti t0 t1 t2 rfl (by omega) _ n _ rfl rfl _ _ 1 1 _ rfl hv0 (by simp [Op.cells, Value.oneCell']) (by simp only [maxLen]; omega) (by omega) ?_
        intro A' c' w5 hc' _ K5
        exact ⟨_, _, _, _, _, _, _, _, _, _, rfl, (by first | exact p0 | exact fun _ => rfl), (by first | exact p1 | exact fun _ => rfl), (by first | exact p2 | exact fun _ => rfl), (by first | exact p3 | exact fun _ => rfl), (by first | exact p4 | exact fun _ => rfl), (by first | exact p5 | exact fun _ => rfl), (by simp [h8]), (by simp [h9]), (by simpa using q2), (by simpa using q3), (by simpa using q4), (by simpa using q6), (by simp [he]), (by simp [h8]), (by simp [h9]), (by simp [h10]), (by rw [if_neg (by simp [h10]), if_pos (by simp)]; exact ⟨A', c', rfl, hc', K5.sub (List.Sublist.cons_cons _ (List.Sublist.cons_cons _ (List.Sublist.cons_cons _ (List.Sublist.cons_cons _ (List.sublist_append_left _ _)))))⟩)⟩
      · have h9 : L 9 = false := by cases hh : L 9 with | false => rfl | true => (have hq := q9 hh; simp [hi] at hq)
        have h10 : L 10 = false := by cases hh : L 10 with | false => rfl | true => (have hq := q10 hh; simp [h9] at hq)
        obtain rfl := p0 (by simp [he])
        refine wpOp_step rfl (fun K hK => ?_)
        go_simp
        exact hK _ _ ⟨_, _, _, _, _, _, _, _, _, _, rfl, (by first | exact p0 | exact fun _ => rfl), (by first | exact p1 | exact fun _ => rfl), (by first | exact p2 | exact fun _ => rfl), (by first | exact p3 | exact fun _ => rfl), (by first | exact p4 | exact fun _ => rfl), (by first | exact p5 | exact fun _ => rfl), (fun _ => rfl), (by simp [h9]), (by simpa using q2), (by simpa using q3), (by simpa using q4), (by simpa using q6), (by simpa using q7), (by simp [he]), (by simp [h9]), (by simp [h10]), (by simpa [h9, h10] using hS)⟩
      · have h10 : L 10 = false := by cases hh : L 10 with | false => rfl | true => (have hq := q10 hh; simp [hi] at hq)
        obtain rfl := p8 (by simp [he])
        refine wpOp_step rfl (fun K hK => ?_)
        go_simp
        exact hK _ _ ⟨_, _, _, _, _, _, _, _, _, _, rfl, (by first | exact p0 | exact fun _ => rfl), (by first | exact p1 | exact fun _ => rfl), (by first | exact p2 | exact fun _ => rfl), (by first | exact p3 | exact fun _ => rfl), (by first | exact p4 | exact fun _ => rfl), (by first | exact p5 | exact fun _ => rfl), (by first | exact p8 | exact fun _ => rfl), (fun _ => rfl), (by simpa using q2), (by simpa using q3), (by simpa using q4), (by simpa using q6), (by simpa using q7), (by simpa using q8), (by simp [he]), (by simp [h10]), (by simpa [h10] using hS)⟩
      · obtain rfl := p9 (by simp [he])
        have t6 : L 6 = true := by simp [he]
        have t7 : L 7 = true := by simp [he]
        rw [if_neg (by simp [hi]), if_pos t7] at hS
        obtain ⟨A', c', rfl, hc', hS⟩ := hS
        have e0 := hS.cell 0 rfl (k := 2) rfl
        have u0 := hS.froz 0 rfl (k := 2)
        have hN := hS.set 0 rfl (k := 2) (.slice A' (n + 1) c')
        refine wpOp_step rfl (fun K hK => ?_)
        go_simp
        exact hK _ _ ⟨_, _, _, _, _, _, _, _, _, _, rfl, (by first | exact p0 | exact fun _ => rfl), (by first | exact p1 | exact fun _ => rfl), (by first | exact p2 | exact fun _ => rfl), (by first | exact p3 | exact fun _ => rfl), (by first | exact p4 | exact fun _ => rfl), (by first | exact p5 | exact fun _ => rfl), (by first | exact p8 | exact fun _ => rfl), (by first | exact p9 | exact fun _ => rfl), (by simpa using q2), (by simpa using q3), (by simpa using q4), (by simpa using q6), (by simpa using q7), (by simpa using q8), (by simpa using q9), (by simp [he]), (by rw [if_pos (by simp)]; exact ⟨A', c', rfl, hc', hN⟩)⟩
    · rintro L ac w' ⟨x21, x22, x23, x24, x25, x26, x27, x28, x29, x30, ha, p0, p1, p2, p3, p4, p5, p8, p9, q2, q3, q4, q6, q7, q8, q9, q10, hS⟩ hall
      have t6 := hall 6 (by decide)
      have t7 := hall 7 (by decide)
      have t10 := hall 10 (by decide)
      rw [if_pos t10] at hS
      obtain ⟨A', c', rfl, hc', hS⟩ := hS
      obtain rfl := p0 (hall 0 (by decide))
      obtain rfl := p1 (hall 1 (by decide))
      obtain rfl := p2 (hall 2 (by decide))
      obtain rfl := p3 (hall 3 (by decide))
      obtain rfl := p4 (hall 4 (by decide))
      obtain rfl := p5 (hall 5 (by decide))
      obtain rfl := p8 (hall 8 (by decide))
      obtain rfl := p9 (hall 9 (by decide))
      simp only [turn, List.foldl_cons, List.foldl_nil, List.setIfInBounds_toArray, List.set_cons_succ, List.set_cons_zero] at ha
      subst ha
      clear q2 q3 q4 q6 q7 q8 q9 q10  t6 t7 t10
      have HS9 : Hid (Sep w0 w' (sC gS gn gd A' (n + 1) c' :: fm gn n5 N1 :: fm gd nd D :: oR A' (n + 1) c' (C ++ [o]) :: RB)) := Lib.hid (by
        have h := hS
        unfold oR
        rw [List.flatMap_append]
        simpa using h)
      clear hS
      have f0 := HS9.out.cell (iy + 4) (by simpa using HBY.out) (k := 0) rfl
      have f1 := HS9.out.cell (iy + 4) (by simpa using HBY.out) (k := 1) rfl
      have u0 := HS9.out.froz (iy + 4) (by simpa using HBY.out) (k := 0)
      have u1 := HS9.out.froz (iy + 4) (by simpa using HBY.out) (k := 1)
      have HK8 := Lib.hid (setTwo HS9.out iy HBY.out (.int .i64 0) (.string ⟨#[]⟩))
      have HK9 := Lib.hid (HK8.out.sub (List.Sublist.cons_cons _ (List.Sublist.cons_cons _ (List.Sublist.cons_cons _ (List.Sublist.cons_cons _ (HSUB.out _))))))
      have f3 := HK8.out.cell (iy + 4) (by simpa using getSet_self HBY.out) (k := 0) rfl
      have f4 := HK8.out.cell (iy + 4) (by simpa using getSet_self HBY.out) (k := 1) rfl
      clear HS9
      go_wp2
      refine bodyPost_ret (v := .agg #[.int .i64 0, .string ⟨#[]⟩]) (by simp [results, Tryz.results23, asAddr, Result.andThen, go_sem, f3, f4]) rfl ?_
      exact ⟨rfl, gn, gd, n5, nd, A', n + 1, c', HNL.out, HN5.out, HND.out, by rw [← HNX.out, HN1.out]; exact HK9.out⟩
  | over h h1 h2 x h3 =>
    rw [h] at e0
    clear h h1 h2 h3
    go_upto_region 5 with (fail)
    have c0 := fun z : LaterOf w2 => (HS.out.later z.h).cell 0 rfl (k := 0) rfl
    have e0 := fun z : LaterOf w2 => (HS.out.later z.h).cell (ix + 4) (by simpa using HBX.out) (k := 0) rfl
    have e1 := fun z : LaterOf w2 => (HS.out.later z.h).cell (ix + 4) (by simpa using HBX.out) (k := 1) rfl
    have e2 := fun z : LaterOf w2 => (HS.out.later z.h).cell (ix + 4) (by simpa using HBX.out) (k := 2) rfl
    have e3 := fun z : LaterOf w2 => (HS.out.later z.h).cell (ix + 4) (by simpa using HBX.out) (k := 3) rfl
    try simp only at e0 e1 e2 e3
    (refine wp_region_tail 5 (by kernel_rfl) (by kernel_rfl) ?_; simp only [List.take_succ_cons, List.take_zero, List.drop_succ_cons, List.drop_zero]; repeat (go_big_quiet_step (fail)))
    clear c0 e0 e1 e2 e3
    refine wpQuiet_nil ?_; intro xw hw'; obtain ⟨xq, hw''⟩ := hw'; obtain ⟨xw0, xh⟩ := xq; change xw = xw0 at hw''; subst hw''
    have cA := Lib.hid (apply_any w0 xw _ 1 gn nn (now D C) o (HS.out.later xh) rfl hsz hnm)
    clear HS xh
    go_wp2_with fail
    refine cA.out.mono ?_; rintro en w5 ⟨rfl, n5, h5, hs5⟩
    have HNX : Hid (ap (now D C) o = now D (C ++ [o])) := Lib.hid (now_snoc D C o).symm
    obtain ⟨N1, HN1⟩ : ∃ N1, Hid (ap (now D C) o = N1) := ⟨_, Lib.hid rfl⟩
    have HS : Hid (Sep w0 w5 (sC gS gn gd A n c :: fm gn n5 N1 :: fm gd nd D :: oR A n c C :: RB)) := Lib.hid (by rw [← HN1.out]; exact hs5)
    have HNL : Hid ((C ++ [o]).length = n + 1) := Lib.hid (by rw [List.length_append, HL.out]; rfl)
    have HN5 : Hid (n5 ≤ k + 1) := Lib.hid (by omega)
    have HND : Hid (nd + (n + 1) ≤ k + 1) := Lib.hid (by omega)
    clear hs5 cA h5
    go_upto_region 6 with (fail)
    refine wp_region_inv0 (fun ac0 L ac w' => ∃ x21 x22 x23 x24 x25 x26 x27 x28 x29 x30, ac = turn ac0 [(21, x21), (22, x22), (23, x23), (24, x24), (25, x25), (26, x26), (27, x27), (28, x28), (29, x29), (30, x30)] ∧ (L 0 = true → x21 = .pointer (some ⟨gS, 0, none⟩)) ∧ (L 1 = true → x22 = .pointer (some ⟨gS, 0, none⟩)) ∧ (L 2 = true → x23 = .pointer (some ⟨gS, 0, none⟩)) ∧ (L 3 = true → x24 = .pointer (some ⟨gS, 2, none⟩)) ∧ (L 4 = true → x25 = .slice A n c) ∧ (L 5 = true → x26 = .agg #[.int .i64 o.kind, .string o.nm, .string o.dt, .int .i64 o.keep]) ∧ (L 8 = true → x29 = .pointer (some ⟨gS, 0, none⟩)) ∧ (L 9 = true → x30 = .pointer (some ⟨gS, 2, none⟩)) ∧ (L 2 = true → L 1 = true) ∧ (L 3 = true → L 2 = true) ∧ (L 4 = true → L 3 = true) ∧ (L 6 = true → L 5 = true) ∧ (L 7 = true → L 4 = true ∧ L 6 = true) ∧ (L 8 = true → L 0 = true ∧ L 1 = true ∧ L 2 = true ∧ L 3 = true ∧ L 4 = true ∧ L 5 = true ∧ L 6 = true ∧ L 7 = true) ∧ (L 9 = true → L 0 = true ∧ L 1 = true ∧ L 2 = true ∧ L 3 = true ∧ L 4 = true ∧ L 5 = true ∧ L 6 = true ∧ L 7 = true ∧ L 8 = true) ∧ (L 10 = true → L 0 = true ∧ L 1 = true ∧ L 2 = true ∧ L 3 = true ∧ L 4 = true ∧ L 5 = true ∧ L 6 = true ∧ L 7 = true ∧ L 9 = true) ∧ (if L 10 = true then (∃ A' c', x28 = .slice A' (n + 1) c' ∧ n + 1 ≤ c' ∧ Sep w0 w' (sC gS gn gd A' (n + 1) c' :: fm gn n5 N1 :: fm gd nd D :: .row 56 4 (.slice A' (n + 1) c') (n + 1) (C.flatMap Op.cells ++ o.cells) :: RB)) else (if L 7 = true then (∃ A' c', x28 = .slice A' (n + 1) c' ∧ n + 1 ≤ c' ∧ Sep w0 w' (sC gS gn gd A n c :: fm gn n5 N1 :: fm gd nd D :: .row 56 4 (.slice A' (n + 1) c') (n + 1) (C.flatMap Op.cells ++ o.cells) :: RB)) else (if L 6 = true then (∃ gv, x27 = .slice (some ⟨gv, 0, none⟩) 1 1 ∧ Sep w0 w' (sC gS gn gd A n c :: fm gn n5 N1 :: fm gd nd D :: oR A n c C :: (RB ++ [oC gv o]))) else Sep w0 w' (sC gS gn gd A n c :: fm gn n5 N1 :: fm gd nd D :: oR A n c C :: RB))))) rfl (by kernel_rfl) ?_ ?_ ?_
    · simp only [turn, List.foldl_cons, List.foldl_nil, List.setIfInBounds_toArray, List.set_cons_succ, List.set_cons_zero]
      exact ⟨_, _, _, _, _, _, _, _, _, _, rfl, (fun h => absurd h (by decide)), (fun h => absurd h (by decide)), (fun h => absurd h (by decide)), (fun h => absurd h (by decide)), (fun h => absurd h (by decide)), (fun h => absurd h (by decide)), (fun h => absurd h (by decide)), (fun h => absurd h (by decide)), (fun h => absurd h (by decide)), (fun h => absurd h (by decide)), (fun h => absurd h (by decide)), (fun h => absurd h (by decide)), (fun h => absurd h (by decide)), (fun h => absurd h (by decide)), (fun h => absurd h (by decide)), (fun h => absurd h (by decide)), by simpa using HS.out.drew⟩
    · rintro L ac w' i o ⟨x21, x22, x23, x24, x25, x26, x27, x28, x29, x30, ha, p0, p1, p2, p3, p4, p5, p8, p9, q2, q3, q4, q6, q7, q8, q9, q10, hS⟩ ho hi he
      simp only [turn, List.foldl_cons, List.foldl_nil, List.setIfInBounds_toArray, List.set_cons_succ, List.set_cons_zero] at ha ⊢
      subst ha
      rcases i with _|_|_|_|_|_|_|_|_|_|_|i
      all_goals cases ho
      all_goals simp [Region.binds] at he
      · have h8 : L 8 = false := by cases hh : L 8 with | false => rfl | true => (have hq := q8 hh; simp [hi] at hq)
        have h9 : L 9 = false := by cases hh : L 9 with | false => rfl | true => (have hq := q9 hh; simp [hi] at hq)
        have h10 : L 10 = false := by cases hh : L 10 with | false => rfl | true => (have hq := q10 hh; simp [hi] at hq)
        refine wpOp_step rfl (fun K hK => ?_)
        go_simp
        exact hK _ _ ⟨_, _, _, _, _, _, _, _, _, _, rfl, (fun _ => rfl), (by first | exact p1 | exact fun _ => rfl), (by first | exact p2 | exact fun _ => rfl), (by first | exact p3 | exact fun _ => rfl), (by first | exact p4 | exact fun _ => rfl), (by first | exact p5 | exact fun _ => rfl), (by simp [h8]), (by simp [h9]), (by simpa using q2), (by simpa using q3), (by simpa using q4), (by simpa using q6), (by simpa using q7), (by simp [h8]), (by simp [h9]), (by simp [h10]), (by simpa [h8, h9, h10] using hS)⟩
      · have h2 : L 2 = false := by cases hh : L 2 with | false => rfl | true => (have hq := q2 hh; simp [hi] at hq)
        have h8 : L 8 = false := by cases hh : L 8 with | false => rfl | true => (have hq := q8 hh; simp [hi] at hq)
        have h9 : L 9 = false := by cases hh : L 9 with | false => rfl | true => (have hq := q9 hh; simp [hi] at hq)
        have h10 : L 10 = false := by cases hh : L 10 with | false => rfl | true => (have hq := q10 hh; simp [hi] at hq)
        have h3 : L 3 = false := by cases hh : L 3 with | false => rfl | true => (have hq := q3 hh; simp [h2] at hq)
        have h4 : L 4 = false := by cases hh : L 4 with | false => rfl | true => (have hq := q4 hh; simp [h3] at hq)
        have h7 : L 7 = false := by cases hh : L 7 with | false => rfl | true => (have hq := q7 hh; simp [h4] at hq)
        refine wpOp_step rfl (fun K hK => ?_)
        go_simp
        exact hK _ _ ⟨_, _, _, _, _, _, _, _, _, _, rfl, (by first | exact p0 | exact fun _ => rfl), (fun _ => rfl), (by simp [h2]), (by simp [h3]), (by simp [h4]), (by first | exact p5 | exact fun _ => rfl), (by simp [h8]), (by simp [h9]), (by simp [h2]), (by simp [h3]), (by simp [h4]), (by simpa using q6), (by simp [h7]), (by simp [h8]), (by simp [h9]), (by simp [h10]), (by simpa [h2, h8, h9, h10, h3, h4, h7] using hS)⟩
      · have h3 : L 3 = false := by cases hh : L 3 with | false => rfl | true => (have hq := q3 hh; simp [hi] at hq)
        have h8 : L 8 = false := by cases hh : L 8 with | false => rfl | true => (have hq := q8 hh; simp [hi] at hq)
        have h9 : L 9 = false := by cases hh : L 9 with | false => rfl | true => (have hq := q9 hh; simp [hi] at hq)
        have h10 : L 10 = false := by cases hh : L 10 with | false => rfl | true => (have hq := q10 hh; simp [hi] at hq)
        have h4 : L 4 = false := by cases hh : L 4 with | false => rfl | true => (have hq := q4 hh; simp [h3] at hq)
        have h7 : L 7 = false := by cases hh : L 7 with | false => rfl | true => (have hq := q7 hh; simp [h4] at hq)
        obtain rfl := p1 (by simp [he])
        refine wpOp_step rfl (fun K hK => ?_)
        go_simp
        exact hK _ _ ⟨_, _, _, _, _, _, _, _, _, _, rfl, (by first | exact p0 | exact fun _ => rfl), (by first | exact p1 | exact fun _ => rfl), (fun _ => rfl), (by simp [h3]), (by simp [h4]), (by first | exact p5 | exact fun _ => rfl), (by simp [h8]), (by simp [h9]), (by simp [he]), (by simp [h3]), (by simp [h4]), (by simpa using q6), (by simp [h7]), (by simp [h8]), (by simp [h9]), (by simp [h10]), (by simpa [h3, h8, h9, h10, h4, h7] using hS)⟩
      · have h4 : L 4 = false := by cases hh : L 4 with | false => rfl | true => (have hq := q4 hh; simp [hi] at hq)
        have h8 : L 8 = false := by cases hh : L 8 with | false => rfl | true => (have hq := q8 hh; simp [hi] at hq)
        have h9 : L 9 = false := by cases hh : L 9 with | false => rfl | true => (have hq := q9 hh; simp [hi] at hq)
        have h10 : L 10 = false := by cases hh : L 10 with | false => rfl | true => (have hq := q10 hh; simp [hi] at hq)
        have h7 : L 7 = false := by cases hh : L 7 with | false => rfl | true => (have hq := q7 hh; simp [h4] at hq)
        obtain rfl := p2 (by simp [he])
        refine wpOp_step rfl (fun K hK => ?_)
        go_simp
        exact hK _ _ ⟨_, _, _, _, _, _, _, _, _, _, rfl, (by first | exact p0 | exact fun _ => rfl), (by first | exact p1 | exact fun _ => rfl), (by first | exact p2 | exact fun _ => rfl), (fun _ => rfl), (by simp [h4]), (by first | exact p5 | exact fun _ => rfl), (by simp [h8]), (by simp [h9]), (by simpa using q2), (by simp [he]), (by simp [h4]), (by simpa using q6), (by simp [h7]), (by simp [h8]), (by simp [h9]), (by simp [h10]), (by simpa [h4, h8, h9, h10, h7] using hS)⟩
      · have h7 : L 7 = false := by cases hh : L 7 with | false => rfl | true => (have hq := q7 hh; simp [hi] at hq)
        have h8 : L 8 = false := by cases hh : L 8 with | false => rfl | true => (have hq := q8 hh; simp [hi] at hq)
        have h9 : L 9 = false := by cases hh : L 9 with | false => rfl | true => (have hq := q9 hh; simp [hi] at hq)
        have h10 : L 10 = false := by cases hh : L 10 with | false => rfl | true => (have hq := q10 hh; simp [hi] at hq)
        obtain rfl := p3 (by simp [he])
        have f0 : w'.cell? ⟨gS, 2, none⟩ = some (.slice A n c) := by
          rw [if_neg (by simp [h10]), if_neg (by simp [h7])] at hS
          split at hS
          · obtain ⟨gv, _, S⟩ := hS
            exact S.cell 0 rfl (k := 2) rfl
          · exact hS.cell 0 rfl (k := 2) rfl
        refine wpOp_step rfl (fun K hK => ?_)
        go_simp
        exact hK _ _ ⟨_, _, _, _, _, _, _, _, _, _, rfl, (by first | exact p0 | exact fun _ => rfl), (by first | exact p1 | exact fun _ => rfl), (by first | exact p2 | exact fun _ => rfl), (by first | exact p3 | exact fun _ => rfl), (fun _ => rfl), (by first | exact p5 | exact fun _ => rfl), (by simp [h8]), (by simp [h9]), (by simpa using q2), (by simpa using q3), (by simp [he]), (by simpa using q6), (by simp [h7]), (by simp [h8]), (by simp [h9]), (by simp [h10]), (by simpa [h7, h8, h9, h10] using hS)⟩
      · have h6 : L 6 = false := by cases hh : L 6 with | false => rfl | true => (have hq := q6 hh; simp [hi] at hq)
        have h8 : L 8 = false := by cases hh : L 8 with | false => rfl | true => (have hq := q8 hh; simp [hi] at hq)
        have h9 : L 9 = false := by cases hh : L 9 with | false => rfl | true => (have hq := q9 hh; simp [hi] at hq)
        have h10 : L 10 = false := by cases hh : L 10 with | false => rfl | true => (have hq := q10 hh; simp [hi] at hq)
        have h7 : L 7 = false := by cases hh : L 7 with | false => rfl | true => (have hq := q7 hh; simp [h6] at hq)
        have hS5 : Sep w0 w' (sC gS gn gd A n c :: fm gn n5 N1 :: fm gd nd D :: oR A n c C :: RB) := by
          rw [if_neg (by simp [h10]), if_neg (by simp [h7]), if_neg (by simp [h6])] at hS
          exact hS
        have hix : (sC gS gn gd A n c :: fm gn n5 N1 :: fm gd nd D :: oR A n c C :: RB)[ix + 4]? = some (oC gx o) := by simpa using HBX.out
        have f0 : w'.cell? ⟨gx, 0, none⟩ = some (.int .i64 o.kind) := hS5.cell (ix + 4) hix (k := 0) rfl
        have f1 : w'.cell? ⟨gx, 1, none⟩ = some (.string o.nm) := hS5.cell (ix + 4) hix (k := 1) rfl
        have f2 : w'.cell? ⟨gx, 2, none⟩ = some (.string o.dt) := hS5.cell (ix + 4) hix (k := 2) rfl
        have f3 : w'.cell? ⟨gx, 3, none⟩ = some (.int .i64 o.keep) := hS5.cell (ix + 4) hix (k := 3) rfl
        clear hS5 hix
        refine wpOp_step rfl (fun K hK => ?_)
        go_simp
        exact hK _ _ ⟨_, _, _, _, _, _, _, _, _, _, rfl, (by first | exact p0 | exact fun _ => rfl), (by first | exact p1 | exact fun _ => rfl), (by first | exact p2 | exact fun _ => rfl), (by first | exact p3 | exact fun _ => rfl), (by first | exact p4 | exact fun _ => rfl), (fun _ => rfl), (by simp [h8]), (by simp [h9]), (by simpa using q2), (by simpa using q3), (by simpa using q4), (by simp [h6]), (by simp [h7]), (by simp [h8]), (by simp [h9]), (by simp [h10]), (by simpa [h6, h8, h9, h10, h7] using hS)⟩
      · have h7 : L 7 = false := by cases hh : L 7 with | false => rfl | true => (have hq := q7 hh; simp [hi] at hq)
        have h8 : L 8 = false := by cases hh : L 8 with | false => rfl | true => (have hq := q8 hh; simp [hi] at hq)
        have h9 : L 9 = false := by cases hh : L 9 with | false => rfl | true => (have hq := q9 hh; simp [hi] at hq)
        have h10 : L 10 = false := by cases hh : L 10 with | false => rfl | true => (have hq := q10 hh; simp [hi] at hq)
        obtain rfl := p5 (by simp [he])
        rw [if_neg (by simp [h10]), if_neg (by simp [h7]), if_neg (by simp [hi])] at hS
        have hN := hS.new 56 o.cells
        refine wpOp_step rfl (fun K hK => ?_)
        go_simp
        exact hK _ _ ⟨_, _, _, _, _, _, _, _, _, _, rfl, (by first | exact p0 | exact fun _ => rfl), (by first | exact p1 | exact fun _ => rfl), (by first | exact p2 | exact fun _ => rfl), (by first | exact p3 | exact fun _ => rfl), (by first | exact p4 | exact fun _ => rfl), (by first | exact p5 | exact fun _ => rfl), (by simp [h8]), (by simp [h9]), (by simpa using q2), (by simpa using q3), (by simpa using q4), (by simp [he]), (by simp [h7]), (by simp [h8]), (by simp [h9]), (by simp [h10]), (by rw [if_neg (by simp [h10]), if_neg (by simp [h7]), if_pos (by simp)]; exact ⟨_, rfl, hN⟩)⟩
      · have h8 : L 8 = false := by cases hh : L 8 with | false => rfl | true => (have hq := q8 hh; simp [hi] at hq)
        have h9 : L 9 = false := by cases hh : L 9 with | false => rfl | true => (have hq := q9 hh; simp [hi] at hq)
        have h10 : L 10 = false := by cases hh : L 10 with | false => rfl | true => (have hq := q10 hh; simp [hi] at hq)
        obtain rfl := p4 (by simp [he])
        have t6 : L 6 = true := by simp [he]
        rw [if_neg (by simp [h10]), if_neg (by simp [hi]), if_pos t6] at hS
        obtain ⟨gv, rfl, hS⟩ := hS
        have hiv : (sC gS gn gd A n c :: fm gn n5 N1 :: fm gd nd D :: oR A n c C :: (RB ++ [oC gv o]))[RB.length + 4]? = some (oC gv o) := by simp
        have hv0 : Rd w' w'.heap.size 4 (some ⟨gv, 0, none⟩) 1 o.cells := ⟨rfl, fun _ => ⟨gv, 0, rfl, Blk.lt (hS.blk (RB.length + 4) hiv), fun j u hj => by rw [Nat.zero_add]; exact hS.cell (RB.length + 4) hiv hj⟩⟩
        refine wpOp_at rfl rfl ?_
        refine oper_append_sep hS 3 (.tmp 25) (.tmp 27) 45 rfl 56 ti (.agg #[.int .i64 0, .string ⟨#[]⟩, .string ⟨#[]⟩, .int .i64 0]) 4 48 Tryz.underlying45 hti t0 t1 t2 rfl (by omega) _ n _ rfl rfl _ _ 1 1 _ rfl hv0 (by simp [Op.cells, Value.oneCell']) (by simp only [maxLen]; omega) (by omega) ?_
        intro A' c' w5 hc' _ K5
        exact ⟨_, _, _, _, _, _, _, _, _, _, rfl, (by first | exact p0 | exact fun _ => rfl), (by first | exact p1 | exact fun _ => rfl), (by first | exact p2 | exact fun _ => rfl), (by first | exact p3 | exact fun _ => rfl), (by first | exact p4 | exact fun _ => rfl), (by first | exact p5 | exact fun _ => rfl), (by simp [h8]), (by simp [h9]), (by simpa using q2), (by simpa using q3), (by simpa using q4), (by simpa using q6), (by simp [he]), (by simp [h8]), (by simp [h9]), (by simp [h10]), (by rw [if_neg (by simp [h10]), if_pos (by simp)]; exact ⟨A', c', rfl, hc', K5.sub (List.Sublist.cons_cons _ (List.Sublist.cons_cons _ (List.Sublist.cons_cons _ (List.Sublist.cons_cons _ (List.sublist_append_left _ _)))))⟩)⟩
      · have h9 : L 9 = false := by cases hh : L 9 with | false => rfl | true => (have hq := q9 hh; simp [hi] at hq)
        have h10 : L 10 = false := by cases hh : L 10 with | false => rfl | true => (have hq := q10 hh; simp [h9] at hq)
        obtain rfl := p0 (by simp [he])
        refine wpOp_step rfl (fun K hK => ?_)
        go_simp
        exact hK _ _ ⟨_, _, _, _, _, _, _, _, _, _, rfl, (by first | exact p0 | exact fun _ => rfl), (by first | exact p1 | exact fun _ => rfl), (by first | exact p2 | exact fun _ => rfl), (by first | exact p3 | exact fun _ => rfl), (by first | exact p4 | exact fun _ => rfl), (by first | exact p5 | exact fun _ => rfl), (fun _ => rfl), (by simp [h9]), (by simpa using q2), (by simpa using q3), (by simpa using q4), (by simpa using q6), (by simpa using q7), (by simp [he]), (by simp [h9]), (by simp [h10]), (by simpa [h9, h10] using hS)⟩
      · have h10 : L 10 = false := by cases hh : L 10 with | false => rfl | true => (have hq := q10 hh; simp [hi] at hq)
        obtain rfl := p8 (by simp [he])
        refine wpOp_step rfl (fun K hK => ?_)
        go_simp
        exact hK _ _ ⟨_, _, _, _, _, _, _, _, _, _, rfl, (by first | exact p0 | exact fun _ => rfl), (by first | exact p1 | exact fun _ => rfl), (by first | exact p2 | exact fun _ => rfl), (by first | exact p3 | exact fun _ => rfl), (by first | exact p4 | exact fun _ => rfl), (by first | exact p5 | exact fun _ => rfl), (by first | exact p8 | exact fun _ => rfl), (fun _ => rfl), (by simpa using q2), (by simpa using q3), (by simpa using q4), (by simpa using q6), (by simpa using q7), (by simpa using q8), (by simp [he]), (by simp [h10]), (by simpa [h10] using hS)⟩
      · obtain rfl := p9 (by simp [he])
        have t6 : L 6 = true := by simp [he]
        have t7 : L 7 = true := by simp [he]
        rw [if_neg (by simp [hi]), if_pos t7] at hS
        obtain ⟨A', c', rfl, hc', hS⟩ := hS
        have e0 := hS.cell 0 rfl (k := 2) rfl
        have u0 := hS.froz 0 rfl (k := 2)
        have hN := hS.set 0 rfl (k := 2) (.slice A' (n + 1) c')
        refine wpOp_step rfl (fun K hK => ?_)
        go_simp
        exact hK _ _ ⟨_, _, _, _, _, _, _, _, _, _, rfl, (by first | exact p0 | exact fun _ => rfl), (by first | exact p1 | exact fun _ => rfl), (by first | exact p2 | exact fun _ => rfl), (by first | exact p3 | exact fun _ => rfl), (by first | exact p4 | exact fun _ => rfl), (by first | exact p5 | exact fun _ => rfl), (by first | exact p8 | exact fun _ => rfl), (by first | exact p9 | exact fun _ => rfl), (by simpa using q2), (by simpa using q3), (by simpa using q4), (by simpa using q6), (by simpa using q7), (by simpa using q8), (by simpa using q9), (by simp [he]), (by rw [if_pos (by simp)]; exact ⟨A', c', rfl, hc', hN⟩)⟩
    · rintro L ac w' ⟨x21, x22, x23, x24, x25, x26, x27, x28, x29, x30, ha, p0, p1, p2, p3, p4, p5, p8, p9, q2, q3, q4, q6, q7, q8, q9, q10, hS⟩ hall
      have t6 := hall 6 (by decide)
      have t7 := hall 7 (by decide)
      have t10 := hall 10 (by decide)
      rw [if_pos t10] at hS
      obtain ⟨A', c', rfl, hc', hS⟩ := hS
      obtain rfl := p0 (hall 0 (by decide))
      obtain rfl := p1 (hall 1 (by decide))
      obtain rfl := p2 (hall 2 (by decide))
      obtain rfl := p3 (hall 3 (by decide))
      obtain rfl := p4 (hall 4 (by decide))
      obtain rfl := p5 (hall 5 (by decide))
      obtain rfl := p8 (hall 8 (by decide))
      obtain rfl := p9 (hall 9 (by decide))
      simp only [turn, List.foldl_cons, List.foldl_nil, List.setIfInBounds_toArray, List.set_cons_succ, List.set_cons_zero] at ha
      subst ha
      clear q2 q3 q4 q6 q7 q8 q9 q10  t6 t7 t10
      have HS9 : Hid (Sep w0 w' (sC gS gn gd A' (n + 1) c' :: fm gn n5 N1 :: fm gd nd D :: oR A' (n + 1) c' (C ++ [o]) :: RB)) := Lib.hid (by
        have h := hS
        unfold oR
        rw [List.flatMap_append]
        simpa using h)
      clear hS
      have f0 := HS9.out.cell (iy + 4) (by simpa using HBY.out) (k := 0) rfl
      have f1 := HS9.out.cell (iy + 4) (by simpa using HBY.out) (k := 1) rfl
      have u0 := HS9.out.froz (iy + 4) (by simpa using HBY.out) (k := 0)
      have u1 := HS9.out.froz (iy + 4) (by simpa using HBY.out) (k := 1)
      have HK8 := Lib.hid (setTwo HS9.out iy HBY.out (.int .i64 0) (.string ⟨#[]⟩))
      have HK9 := Lib.hid (HK8.out.sub (List.Sublist.cons_cons _ (List.Sublist.cons_cons _ (List.Sublist.cons_cons _ (List.Sublist.cons_cons _ (HSUB.out _))))))
      have f3 := HK8.out.cell (iy + 4) (by simpa using getSet_self HBY.out) (k := 0) rfl
      have f4 := HK8.out.cell (iy + 4) (by simpa using getSet_self HBY.out) (k := 1) rfl
      clear HS9
      go_wp2
      refine bodyPost_ret (v := .agg #[.int .i64 0, .string ⟨#[]⟩]) (by simp [results, Tryz.results23, asAddr, Result.andThen, go_sem, f3, f4]) rfl ?_
      exact ⟨rfl, gn, gd, n5, nd, A', n + 1, c', HNL.out, HN5.out, HND.out, by rw [← HNX.out, HN1.out]; exact HK9.out⟩
  | remove h x h3 =>
    rw [h] at e0
    clear h h3
    go_upto_region 5 with (fail)
    have c0 := fun z : LaterOf w2 => (HS.out.later z.h).cell 0 rfl (k := 0) rfl
    have e0 := fun z : LaterOf w2 => (HS.out.later z.h).cell (ix + 4) (by simpa using HBX.out) (k := 0) rfl
    have e1 := fun z : LaterOf w2 => (HS.out.later z.h).cell (ix + 4) (by simpa using HBX.out) (k := 1) rfl
    have e2 := fun z : LaterOf w2 => (HS.out.later z.h).cell (ix + 4) (by simpa using HBX.out) (k := 2) rfl
    have e3 := fun z : LaterOf w2 => (HS.out.later z.h).cell (ix + 4) (by simpa using HBX.out) (k := 3) rfl
    try simp only at e0 e1 e2 e3
    (refine wp_region_tail 5 (by kernel_rfl) (by kernel_rfl) ?_; simp only [List.take_succ_cons, List.take_zero, List.drop_succ_cons, List.drop_zero]; repeat (go_big_quiet_step (fail)))
    clear c0 e0 e1 e2 e3
    refine wpQuiet_nil ?_; intro xw hw'; obtain ⟨xq, hw''⟩ := hw'; obtain ⟨xw0, xh⟩ := xq; change xw = xw0 at hw''; subst hw''
    have cA := Lib.hid (apply_any w0 xw _ 1 gn nn (now D C) o (HS.out.later xh) rfl hsz hnm)
    clear HS xh
    go_wp2_with fail
    refine cA.out.mono ?_; rintro en w5 ⟨rfl, n5, h5, hs5⟩
    have HNX : Hid (ap (now D C) o = now D (C ++ [o])) := Lib.hid (now_snoc D C o).symm
    obtain ⟨N1, HN1⟩ : ∃ N1, Hid (ap (now D C) o = N1) := ⟨_, Lib.hid rfl⟩
    have HS : Hid (Sep w0 w5 (sC gS gn gd A n c :: fm gn n5 N1 :: fm gd nd D :: oR A n c C :: RB)) := Lib.hid (by rw [← HN1.out]; exact hs5)
    have HNL : Hid ((C ++ [o]).length = n + 1) := Lib.hid (by rw [List.length_append, HL.out]; rfl)
    have HN5 : Hid (n5 ≤ k + 1) := Lib.hid (by omega)
    have HND : Hid (nd + (n + 1) ≤ k + 1) := Lib.hid (by omega)
    clear hs5 cA h5
    go_upto_region 6 with (fail)
    refine wp_region_inv0 (fun ac0 L ac w' => ∃ x21 x22 x23 x24 x25 x26 x27 x28 x29 x30, ac = turn ac0 [(21, x21), (22, x22), (23, x23), (24, x24), (25, x25), (26, x26), (27, x27), (28, x28), (29, x29), (30, x30)] ∧ (L 0 = true → x21 = .pointer (some ⟨gS, 0, none⟩)) ∧ (L 1 = true → x22 = .pointer (some ⟨gS, 0, none⟩)) ∧ (L 2 = true → x23 = .pointer (some ⟨gS, 0, none⟩)) ∧ (L 3 = true → x24 = .pointer (some ⟨gS, 2, none⟩)) ∧ (L 4 = true → x25 = .slice A n c) ∧ (L 5 = true → x26 = .agg #[.int .i64 o.kind, .string o.nm, .string o.dt, .int .i64 o.keep]) ∧ (L 8 = true → x29 = .pointer (some ⟨gS, 0, none⟩)) ∧ (L 9 = true → x30 = .pointer (some ⟨gS, 2, none⟩)) ∧ (L 2 = true → L 1 = true) ∧ (L 3 = true → L 2 = true) ∧ (L 4 = true → L 3 = true) ∧ (L 6 = true → L 5 = true) ∧ (L 7 = true → L 4 = true ∧ L 6 = true) ∧ (L 8 = true → L 0 = true ∧ L 1 = true ∧ L 2 = true ∧ L 3 = true ∧ L 4 = true ∧ L 5 = true ∧ L 6 = true ∧ L 7 = true) ∧ (L 9 = true → L 0 = true ∧ L 1 = true ∧ L 2 = true ∧ L 3 = true ∧ L 4 = true ∧ L 5 = true ∧ L 6 = true ∧ L 7 = true ∧ L 8 = true) ∧ (L 10 = true → L 0 = true ∧ L 1 = true ∧ L 2 = true ∧ L 3 = true ∧ L 4 = true ∧ L 5 = true ∧ L 6 = true ∧ L 7 = true ∧ L 9 = true) ∧ (if L 10 = true then (∃ A' c', x28 = .slice A' (n + 1) c' ∧ n + 1 ≤ c' ∧ Sep w0 w' (sC gS gn gd A' (n + 1) c' :: fm gn n5 N1 :: fm gd nd D :: .row 56 4 (.slice A' (n + 1) c') (n + 1) (C.flatMap Op.cells ++ o.cells) :: RB)) else (if L 7 = true then (∃ A' c', x28 = .slice A' (n + 1) c' ∧ n + 1 ≤ c' ∧ Sep w0 w' (sC gS gn gd A n c :: fm gn n5 N1 :: fm gd nd D :: .row 56 4 (.slice A' (n + 1) c') (n + 1) (C.flatMap Op.cells ++ o.cells) :: RB)) else (if L 6 = true then (∃ gv, x27 = .slice (some ⟨gv, 0, none⟩) 1 1 ∧ Sep w0 w' (sC gS gn gd A n c :: fm gn n5 N1 :: fm gd nd D :: oR A n c C :: (RB ++ [oC gv o]))) else Sep w0 w' (sC gS gn gd A n c :: fm gn n5 N1 :: fm gd nd D :: oR A n c C :: RB))))) rfl (by kernel_rfl) ?_ ?_ ?_
    · simp only [turn, List.foldl_cons, List.foldl_nil, List.setIfInBounds_toArray, List.set_cons_succ, List.set_cons_zero]
      exact ⟨_, _, _, _, _, _, _, _, _, _, rfl, (fun h => absurd h (by decide)), (fun h => absurd h (by decide)), (fun h => absurd h (by decide)), (fun h => absurd h (by decide)), (fun h => absurd h (by decide)), (fun h => absurd h (by decide)), (fun h => absurd h (by decide)), (fun h => absurd h (by decide)), (fun h => absurd h (by decide)), (fun h => absurd h (by decide)), (fun h => absurd h (by decide)), (fun h => absurd h (by decide)), (fun h => absurd h (by decide)), (fun h => absurd h (by decide)), (fun h => absurd h (by decide)), (fun h => absurd h (by decide)), by simpa using HS.out.drew⟩
    · rintro L ac w' i o ⟨x21, x22, x23, x24, x25, x26, x27, x28, x29, x30, ha, p0, p1, p2, p3, p4, p5, p8, p9, q2, q3, q4, q6, q7, q8, q9, q10, hS⟩ ho hi he
      simp only [turn, List.foldl_cons, List.foldl_nil, List.setIfInBounds_toArray, List.set_cons_succ, List.set_cons_zero] at ha ⊢
      subst ha
      rcases i with _|_|_|_|_|_|_|_|_|_|_|i
      all_goals cases ho
      all_goals simp [Region.binds] at he
      · have h8 : L 8 = false := by cases hh : L 8 with | false => rfl | true => (have hq := q8 hh; simp [hi] at hq)
        have h9 : L 9 = false := by cases hh : L 9 with | false => rfl | true => (have hq := q9 hh; simp [hi] at hq)
        have h10 : L 10 = false := by cases hh : L 10 with | false => rfl | true => (have hq := q10 hh; simp [hi] at hq)
        refine wpOp_step rfl (fun K hK => ?_)
        go_simp
        exact hK _ _ ⟨_, _, _, _, _, _, _, _, _, _, rfl, (fun _ => rfl), (by first | exact p1 | exact fun _ => rfl), (by first | exact p2 | exact fun _ => rfl), (by first | exact p3 | exact fun _ => rfl), (by first | exact p4 | exact fun _ => rfl), (by first | exact p5 | exact fun _ => rfl), (by simp [h8]), (by simp [h9]), (by simpa using q2), (by simpa using q3), (by simpa using q4), (by simpa using q6), (by simpa using q7), (by simp [h8]), (by simp [h9]), (by simp [h10]), (by simpa [h8, h9, h10] using hS)⟩
      · have h2 : L 2 = false := by cases hh : L 2 with | false => rfl | true => (have hq := q2 hh; simp [hi] at hq)
        have h8 : L 8 = false := by cases hh : L 8 with | false => rfl | true => (have hq := q8 hh; simp [hi] at hq)
        have h9 : L 9 = false := by cases hh : L 9 with | false => rfl | true => (have hq := q9 hh; simp [hi] at hq)
        have h10 : L 10 = false := by cases hh : L 10 with | false => rfl | true => (have hq := q10 hh; simp [hi] at hq)
        have h3 : L 3 = false := by cases hh : L 3 with | false => rfl | true => (have hq := q3 hh; simp [h2] at hq)
        have h4 : L 4 = false := by cases hh : L 4 with | false => rfl | true => (have hq := q4 hh; simp [h3] at hq)
        have h7 : L 7 = false := by cases hh : L 7 with | false => rfl | true => (have hq := q7 hh; simp [h4] at hq)
        refine wpOp_step rfl (fun K hK => ?_)
        go_simp
        exact hK _ _ ⟨_, _, _, _, _, _, _, _, _, _, rfl, (by first | exact p0 | exact fun _ => rfl), (fun _ => rfl), (by simp [h2]), (by simp [h3]), (by simp [h4]), (by first | exact p5 | exact fun _ => rfl), (by simp [h8]), (by simp [h9]), (by simp [h2]), (by simp [h3]), (by simp [h4]), (by simpa using q6), (by simp [h7]), (by simp [h8]), (by simp [h9]), (by simp [h10]), (by simpa [h2, h8, h9, h10, h3, h4, h7] using hS)⟩
      · have h3 : L 3 = false := by cases hh : L 3 with | false => rfl | true => (have hq := q3 hh; simp [hi] at hq)
        have h8 : L 8 = false := by cases hh : L 8 with | false => rfl | true => (have hq := q8 hh; simp [hi] at hq)
        have h9 : L 9 = false := by cases hh : L 9 with | false => rfl | true => (have hq := q9 hh; simp [hi] at hq)
        have h10 : L 10 = false := by cases hh : L 10 with | false => rfl | true => (have hq := q10 hh; simp [hi] at hq)
        have h4 : L 4 = false := by cases hh : L 4 with | false => rfl | true => (have hq := q4 hh; simp [h3] at hq)
        have h7 : L 7 = false := by cases hh : L 7 with | false => rfl | true => (have hq := q7 hh; simp [h4] at hq)
        obtain rfl := p1 (by simp [he])
        refine wpOp_step rfl (fun K hK => ?_)
        go_simp
        exact hK _ _ ⟨_, _, _, _, _, _, _, _, _, _, rfl, (by first | exact p0 | exact fun _ => rfl), (by first | exact p1 | exact fun _ => rfl), (fun _ => rfl), (by simp [h3]), (by simp [h4]), (by first | exact p5 | exact fun _ => rfl), (by simp [h8]), (by simp [h9]), (by simp [he]), (by simp [h3]), (by simp [h4]), (by simpa using q6), (by simp [h7]), (by simp [h8]), (by simp [h9]), (by simp [h10]), (by simpa [h3, h8, h9, h10, h4, h7] using hS)⟩
      · have h4 : L 4 = false := by cases hh : L 4 with | false => rfl | true => (have hq := q4 hh; simp [hi] at hq)
        have h8 : L 8 = false := by cases hh : L 8 with | false => rfl | true => (have hq := q8 hh; simp [hi] at hq)
        have h9 : L 9 = false := by cases hh : L 9 with | false => rfl | true => (have hq := q9 hh; simp [hi] at hq)
        have h10 : L 10 = false := by cases hh : L 10 with | false => rfl | true => (have hq := q10 hh; simp [hi] at hq)
        have h7 : L 7 = false := by cases hh : L 7 with | false => rfl | true => (have hq := q7 hh; simp [h4] at hq)
        obtain rfl := p2 (by simp [he])
        refine wpOp_step rfl (fun K hK => ?_)
        go_simp
        exact hK _ _ ⟨_, _, _, _, _, _, _, _, _, _, rfl, (by first | exact p0 | exact fun _ => rfl), (by first | exact p1 | exact fun _ => rfl), (by first | exact p2 | exact fun _ => rfl), (fun _ => rfl), (by simp [h4]), (by first | exact p5 | exact fun _ => rfl), (by simp [h8]), (by simp [h9]), (by simpa using q2), (by simp [he]), (by simp [h4]), (by simpa using q6), (by simp [h7]), (by simp [h8]), (by simp [h9]), (by simp [h10]), (by simpa [h4, h8, h9, h10, h7] using hS)⟩
      · have h7 : L 7 = false := by cases hh : L 7 with | false => rfl | true => (have hq := q7 hh; simp [hi] at hq)
        have h8 : L 8 = false := by cases hh : L 8 with | false => rfl | true => (have hq := q8 hh; simp [hi] at hq)
        have h9 : L 9 = false := by cases hh : L 9 with | false => rfl | true => (have hq := q9 hh; simp [hi] at hq)
        have h10 : L 10 = false := by cases hh : L 10 with | false => rfl | true => (have hq := q10 hh; simp [hi] at hq)
        obtain rfl := p3 (by simp [he])
        have f0 : w'.cell? ⟨gS, 2, none⟩ = some (.slice A n c) := by
          rw [if_neg (by simp [h10]), if_neg (by simp [h7])] at hS
          split at hS
          · obtain ⟨gv, _, S⟩ := hS
            exact S.cell 0 rfl (k := 2) rfl
          · exact hS.cell 0 rfl (k := 2) rfl
        refine wpOp_step rfl (fun K hK => ?_)
        go_simp
        exact hK _ _ ⟨_, _, _, _, _, _, _, _, _, _, rfl, (by first | exact p0 | exact fun _ => rfl), (by first | exact p1 | exact fun _ => rfl), (by first | exact p2 | exact fun _ => rfl), (by first | exact p3 | exact fun _ => rfl), (fun _ => rfl), (by first | exact p5 | exact fun _ => rfl), (by simp [h8]), (by simp [h9]), (by simpa using q2), (by simpa using q3), (by simp [he]), (by simpa using q6), (by simp [h7]), (by simp [h8]), (by simp [h9]), (by simp [h10]), (by simpa [h7, h8, h9, h10] using hS)⟩
      · have h6 : L 6 = false := by cases hh : L 6 with | false => rfl | true => (have hq := q6 hh; simp [hi] at hq)
        have h8 : L 8 = false := by cases hh : L 8 with | false => rfl | true => (have hq := q8 hh; simp [hi] at hq)
        have h9 : L 9 = false := by cases hh : L 9 with | false => rfl | true => (have hq := q9 hh; simp [hi] at hq)
        have h10 : L 10 = false := by cases hh : L 10 with | false => rfl | true => (have hq := q10 hh; simp [hi] at hq)
        have h7 : L 7 = false := by cases hh : L 7 with | false => rfl | true => (have hq := q7 hh; simp [h6] at hq)
        have hS5 : Sep w0 w' (sC gS gn gd A n c :: fm gn n5 N1 :: fm gd nd D :: oR A n c C :: RB) := by
          rw [if_neg (by simp [h10]), if_neg (by simp [h7]), if_neg (by simp [h6])] at hS
          exact hS
        have hix : (sC gS gn gd A n c :: fm gn n5 N1 :: fm gd nd D :: oR A n c C :: RB)[ix + 4]? = some (oC gx o) := by simpa using HBX.out
        have f0 : w'.cell? ⟨gx, 0, none⟩ = some (.int .i64 o.kind) := hS5.cell (ix + 4) hix (k := 0) rfl
        have f1 : w'.cell? ⟨gx, 1, none⟩ = some (.string o.nm) := hS5.cell (ix + 4) hix (k := 1) rfl
        have f2 : w'.cell? ⟨gx, 2, none⟩ = some (.string o.dt) := hS5.cell (ix + 4) hix (k := 2) rfl
        have f3 : w'.cell? ⟨gx, 3, none⟩ = some (.int .i64 o.keep) := hS5.cell (ix + 4) hix (k := 3) rfl
        clear hS5 hix
        refine wpOp_step rfl (fun K hK => ?_)
        go_simp
        exact hK _ _ ⟨_, _, _, _, _, _, _, _, _, _, rfl, (by first | exact p0 | exact fun _ => rfl), (by first | exact p1 | exact fun _ => rfl), (by first | exact p2 | exact fun _ => rfl), (by first | exact p3 | exact fun _ => rfl), (by first | exact p4 | exact fun _ => rfl), (fun _ => rfl), (by simp [h8]), (by simp [h9]), (by simpa using q2), (by simpa using q3), (by simpa using q4), (by simp [h6]), (by simp [h7]), (by simp [h8]), (by simp [h9]), (by simp [h10]), (by simpa [h6, h8, h9, h10, h7] using hS)⟩
      · have h7 : L 7 = false := by cases hh : L 7 with | false => rfl | true => (have hq := q7 hh; simp [hi] at hq)
        have h8 : L 8 = false := by cases hh : L 8 with | false => rfl | true => (have hq := q8 hh; simp [hi] at hq)
        have h9 : L 9 = false := by cases hh : L 9 with | false => rfl | true => (have hq := q9 hh; simp [hi] at hq)
        have h10 : L 10 = false := by cases hh : L 10 with | false => rfl | true => (have hq := q10 hh; simp [hi] at hq)
        obtain rfl := p5 (by simp [he])
        rw [if_neg (by simp [h10]), if_neg (by simp [h7]), if_neg (by simp [hi])] at hS
        have hN := hS.new 56 o.cells
        refine wpOp_step rfl (fun K hK => ?_)
        go_simp
        exact hK _ _ ⟨_, _, _, _, _, _, _, _, _, _, rfl, (by first | exact p0 | exact fun _ => rfl), (by first | exact p1 | exact fun _ => rfl), (by first | exact p2 | exact fun _ => rfl), (by first | exact p3 | exact fun _ => rfl), (by first | exact p4 | exact fun _ => rfl), (by first | exact p5 | exact fun _ => rfl), (by simp [h8]), (by simp [h9]), (by simpa using q2), (by simpa using q3), (by simpa using q4), (by simp [he]), (by simp [h7]), (by simp [h8]), (by simp [h9]), (by simp [h10]), (by rw [if_neg (by simp [h10]), if_neg (by simp [h7]), if_pos (by simp)]; exact ⟨_, rfl, hN⟩)⟩
      · have h8 : L 8 = false := by cases hh : L 8 with | false => rfl | true => (have hq := q8 hh; simp [hi] at hq)
        have h9 : L 9 = false := by cases hh : L 9 with | false => rfl | true => (have hq := q9 hh; simp [hi] at hq)
        have h10 : L 10 = false := by cases hh : L 10 with | false => rfl | true => (have hq := q10 hh; simp [hi] at hq)
        obtain rfl := p4 (by simp [he])
        have t6 : L 6 = true := by simp [he]
        rw [if_neg (by simp [h10]), if_neg (by simp [hi]), if_pos t6] at hS
        obtain ⟨gv, rfl, hS⟩ := hS
        have hiv : (sC gS gn gd A n c :: fm gn n5 N1 :: fm gd nd D :: oR A n c C :: (RB ++ [oC gv o]))[RB.length + 4]? = some (oC gv o) := by simp
        have hv0 : Rd w' w'.heap.size 4 (some ⟨gv, 0, none⟩) 1 o.cells := ⟨rfl, fun _ => ⟨gv, 0, rfl, Blk.lt (hS.blk (RB.length + 4) hiv), fun j u hj => by rw [Nat.zero_add]; exact hS.cell (RB.length + 4) hiv hj⟩⟩
        refine wpOp_at rfl rfl ?_
        refine oper_append_sep hS 3 (.tmp 25) (.tmp 27) 45 rfl 56 ti (.agg #[.int .i64 0, .string ⟨#[]⟩, .string ⟨#[]⟩, .int .i64 0]) 4 48 Tryz.underlying45 hti t0 t1 t2 rfl (by omega) _ n _ rfl rfl _ _ 1 1 _ rfl hv0 (by simp [Op.cells, Value.oneCell']) (by simp only [maxLen]; omega) (by omega) ?_
        intro A' c' w5 hc' _ K5
        exact ⟨_, _, _, _, _, _, _, _, _, _, rfl, (by first | exact p0 | exact fun _ => rfl), (by first | exact p1 | exact fun _ => rfl), (by first | exact p2 | exact fun _ => rfl), (by first | exact p3 | exact fun _ => rfl), (by first | exact p4 | exact fun _ => rfl), (by first | exact p5 | exact fun _ => rfl), (by simp [h8]), (by simp [h9]), (by simpa using q2), (by simpa using q3), (by simpa using q4), (by simpa using q6), (by simp [he]), (by simp [h8]), (by simp [h9]), (by simp [h10]), (by rw [if_neg (by simp [h10]), if_pos (by simp)]; exact ⟨A', c', rfl, hc', K5.sub (List.Sublist.cons_cons _ (List.Sublist.cons_cons _ (List.Sublist.cons_cons _ (List.Sublist.cons_cons _ (List.sublist_append_left _ _)))))⟩)⟩
      · have h9 : L 9 = false := by cases hh : L 9 with | false => rfl | true => (have hq := q9 hh; simp [hi] at hq)
        have h10 : L 10 = false := by cases hh : L 10 with | false => rfl | true => (have hq := q10 hh; simp [h9] at hq)
        obtain rfl := p0 (by simp [he])
        refine wpOp_step rfl (fun K hK => ?_)
        go_simp
        exact hK _ _ ⟨_, _, _, _, _, _, _, _, _, _, rfl, (by first | exact p0 | exact fun _ => rfl), (by first | exact p1 | exact fun _ => rfl), (by first | exact p2 | exact fun _ => rfl), (by first | exact p3 | exact fun _ => rfl), (by first | exact p4 | exact fun _ => rfl), (by first | exact p5 | exact fun _ => rfl), (fun _ => rfl), (by simp [h9]), (by simpa using q2), (by simpa using q3), (by simpa using q4), (by simpa using q6), (by simpa using q7), (by simp [he]), (by simp [h9]), (by simp [h10]), (by simpa [h9, h10] using hS)⟩
      · have h10 : L 10 = false := by cases hh : L 10 with | false => rfl | true => (have hq := q10 hh; simp [hi] at hq)
        obtain rfl := p8 (by simp [he])
        refine wpOp_step rfl (fun K hK => ?_)
        go_simp
        exact hK _ _ ⟨_, _, _, _, _, _, _, _, _, _, rfl, (by first | exact p0 | exact fun _ => rfl), (by first | exact p1 | exact fun _ => rfl), (by first | exact p2 | exact fun _ => rfl), (by first | exact p3 | exact fun _ => rfl), (by first | exact p4 | exact fun _ => rfl), (by first | exact p5 | exact fun _ => rfl), (by first | exact p8 | exact fun _ => rfl), (fun _ => rfl), (by simpa using q2), (by simpa using q3), (by simpa using q4), (by simpa using q6), (by simpa using q7), (by simpa using q8), (by simp [he]), (by simp [h10]), (by simpa [h10] using hS)⟩
      · obtain rfl := p9 (by simp [he])
        have t6 : L 6 = true := by simp [he]
        have t7 : L 7 = true := by simp [he]
        rw [if_neg (by simp [hi]), if_pos t7] at hS
        obtain ⟨A', c', rfl, hc', hS⟩ := hS
        have e0 := hS.cell 0 rfl (k := 2) rfl
        have u0 := hS.froz 0 rfl (k := 2)
        have hN := hS.set 0 rfl (k := 2) (.slice A' (n + 1) c')
        refine wpOp_step rfl (fun K hK => ?_)
        go_simp
        exact hK _ _ ⟨_, _, _, _, _, _, _, _, _, _, rfl, (by first | exact p0 | exact fun _ => rfl), (by first | exact p1 | exact fun _ => rfl), (by first | exact p2 | exact fun _ => rfl), (by first | exact p3 | exact fun _ => rfl), (by first | exact p4 | exact fun _ => rfl), (by first | exact p5 | exact fun _ => rfl), (by first | exact p8 | exact fun _ => rfl), (by first | exact p9 | exact fun _ => rfl), (by simpa using q2), (by simpa using q3), (by simpa using q4), (by simpa using q6), (by simpa using q7), (by simpa using q8), (by simpa using q9), (by simp [he]), (by rw [if_pos (by simp)]; exact ⟨A', c', rfl, hc', hN⟩)⟩
    · rintro L ac w' ⟨x21, x22, x23, x24, x25, x26, x27, x28, x29, x30, ha, p0, p1, p2, p3, p4, p5, p8, p9, q2, q3, q4, q6, q7, q8, q9, q10, hS⟩ hall
      have t6 := hall 6 (by decide)
      have t7 := hall 7 (by decide)
      have t10 := hall 10 (by decide)
      rw [if_pos t10] at hS
      obtain ⟨A', c', rfl, hc', hS⟩ := hS
      obtain rfl := p0 (hall 0 (by decide))
      obtain rfl := p1 (hall 1 (by decide))
      obtain rfl := p2 (hall 2 (by decide))
      obtain rfl := p3 (hall 3 (by decide))
      obtain rfl := p4 (hall 4 (by decide))
      obtain rfl := p5 (hall 5 (by decide))
      obtain rfl := p8 (hall 8 (by decide))
      obtain rfl := p9 (hall 9 (by decide))
      simp only [turn, List.foldl_cons, List.foldl_nil, List.setIfInBounds_toArray, List.set_cons_succ, List.set_cons_zero] at ha
      subst ha
      clear q2 q3 q4 q6 q7 q8 q9 q10  t6 t7 t10
      have HS9 : Hid (Sep w0 w' (sC gS gn gd A' (n + 1) c' :: fm gn n5 N1 :: fm gd nd D :: oR A' (n + 1) c' (C ++ [o]) :: RB)) := Lib.hid (by
        have h := hS
        unfold oR
        rw [List.flatMap_append]
        simpa using h)
      clear hS
      have f0 := HS9.out.cell (iy + 4) (by simpa using HBY.out) (k := 0) rfl
      have f1 := HS9.out.cell (iy + 4) (by simpa using HBY.out) (k := 1) rfl
      have u0 := HS9.out.froz (iy + 4) (by simpa using HBY.out) (k := 0)
      have u1 := HS9.out.froz (iy + 4) (by simpa using HBY.out) (k := 1)
      have HK8 := Lib.hid (setTwo HS9.out iy HBY.out (.int .i64 0) (.string ⟨#[]⟩))
      have HK9 := Lib.hid (HK8.out.sub (List.Sublist.cons_cons _ (List.Sublist.cons_cons _ (List.Sublist.cons_cons _ (List.Sublist.cons_cons _ (HSUB.out _))))))
      have f3 := HK8.out.cell (iy + 4) (by simpa using getSet_self HBY.out) (k := 0) rfl
      have f4 := HK8.out.cell (iy + 4) (by simpa using getSet_self HBY.out) (k := 1) rfl
      clear HS9
      go_wp2
      refine bodyPost_ret (v := .agg #[.int .i64 0, .string ⟨#[]⟩]) (by simp [results, Tryz.results23, asAddr, Result.andThen, go_sem, f3, f4]) rfl ?_
      exact ⟨rfl, gn, gd, n5, nd, A', n + 1, c', HNL.out, HN5.out, HND.out, by rw [← HNX.out, HN1.out]; exact HK9.out⟩
  | read h _ h3 =>
    rw [h] at e0
    clear h
    go_upto_region 8 with (fail)
    have c0 := fun z : LaterOf w2 => (HS.out.later z.h).cell 0 rfl (k := 0) rfl
    have e1 := fun z : LaterOf w2 => (HS.out.later z.h).cell (ix + 4) (by simpa using HBX.out) (k := 1) rfl
    have l1 : ∀ z : LaterOf w2, (Instr.lookup 67 (.map (some gn)) (.string o.nm) false).run Tryz.prog z.w = .ok (.string dd) z.w := fun z => by
      have h := (HS.out.later z.h).look 1 rfl kstr hsz Tryz.underlying67 (sz _)
      rw [h3] at h
      exact h
    try simp only at e1
    clear h3
    (refine wp_region_tail 8 (by kernel_rfl) (by kernel_rfl) ?_; simp only [List.take_succ_cons, List.take_zero, List.drop_succ_cons, List.drop_zero]; repeat (go_big_quiet_step (fail)))
    clear c0 e1 l1
    refine wpQuiet_nil ?_; intro xw hw'; obtain ⟨xq, hw''⟩ := hw'; obtain ⟨xw0, xh⟩ := xq; change xw = xw0 at hw''; subst hw''
    have HS2 := Lib.hid (HS.out.later xh)
    clear HS xh e0 e3 c2
    have f0 := HS2.out.cell (iy + 4) (by simpa using HBY.out) (k := 0) rfl
    have f1 := HS2.out.cell (iy + 4) (by simpa using HBY.out) (k := 1) rfl
    have u0 := HS2.out.froz (iy + 4) (by simpa using HBY.out) (k := 0)
    have u1 := HS2.out.froz (iy + 4) (by simpa using HBY.out) (k := 1)
    have HK8 := Lib.hid (setTwo HS2.out iy HBY.out (.int .i64 0) (.string dd))
    have HK9 := Lib.hid (HK8.out.sub (List.Sublist.cons_cons _ (List.Sublist.cons_cons _ (List.Sublist.cons_cons _ (List.Sublist.cons_cons _ (HSUB.out _))))))
    have f3 := HK8.out.cell (iy + 4) (by simpa using getSet_self HBY.out) (k := 0) rfl
    have f4 := HK8.out.cell (iy + 4) (by simpa using getSet_self HBY.out) (k := 1) rfl
    clear HS2
    go_wp2
    refine bodyPost_ret (v := .agg #[.int .i64 0, .string dd]) (by simp [results, Tryz.results23, asAddr, Result.andThen, go_sem, f3, f4]) rfl ?_
    exact ⟨rfl, gn, gd, nn, nd, A, n, c, HL.out, by omega, by omega, HK9.out⟩
  | sync h =>
    rw [h] at e0
    clear h e3
    have cS := Lib.hid (settle_any w0 w2 gS gn gd nn nd A n c _ D C _ (n : Int) n HS.out HL.out (by omega) (by omega) HCS.out (by unfold maxLen; omega))
    have HTK : Hid (C.take n = C) := Lib.hid (by rw [← HL.out]; exact List.take_length)
    go_wp2_with fail
    refine cS.out.mono ?_; rintro en w5 ⟨rfl, gn', nd', hnd', hs5⟩
    rw [HTK.out] at hs5
    have HS2 := Lib.hid hs5
    clear cS hs5 HS e0 c2
    have f0 := HS2.out.cell (iy + 4) (by simpa using HBY.out) (k := 0) rfl
    have f1 := HS2.out.cell (iy + 4) (by simpa using HBY.out) (k := 1) rfl
    have u0 := HS2.out.froz (iy + 4) (by simpa using HBY.out) (k := 0)
    have u1 := HS2.out.froz (iy + 4) (by simpa using HBY.out) (k := 1)
    have HK8 := Lib.hid (setTwo HS2.out iy HBY.out (.int .i64 0) (.string ⟨#[]⟩))
    have HK9 := Lib.hid (HK8.out.sub (List.Sublist.cons_cons _ (List.Sublist.cons_cons _ (List.Sublist.cons_cons _ (List.Sublist.cons_cons _ (HSUB.out _))))))
    have f3 := HK8.out.cell (iy + 4) (by simpa using getSet_self HBY.out) (k := 0) rfl
    have f4 := HK8.out.cell (iy + 4) (by simpa using getSet_self HBY.out) (k := 1) rfl
    clear HS2
    go_wp2
    refine bodyPost_ret (v := .agg #[.int .i64 0, .string ⟨#[]⟩]) (by simp [results, Tryz.results23, asAddr, Result.andThen, go_sem, f3, f4]) rfl ?_
    exact ⟨rfl, gn', gd, nd', nd', none, 0, 0, rfl, by omega, by omega, HK9.out⟩
  | crash h j h1 h2 =>
    rw [h] at e0
    rw [HL.out] at h2
    have cS := Lib.hid (settle_any w0 w2 gS gn gd nn nd A n c _ D C _ o.keep j HS.out HL.out h2 h1 HCS.out (by unfold maxLen; omega))
    have hjn : j ≤ n := by omega
    clear h h1 h2
    go_wp2_with fail
    refine cS.out.mono ?_; rintro en w5 ⟨rfl, gn', nd', hnd', hs5⟩
    have HS2 := Lib.hid hs5
    clear cS hs5 HS e0 c2 e3
    have f0 := HS2.out.cell (iy + 4) (by simpa using HBY.out) (k := 0) rfl
    have f1 := HS2.out.cell (iy + 4) (by simpa using HBY.out) (k := 1) rfl
    have u0 := HS2.out.froz (iy + 4) (by simpa using HBY.out) (k := 0)
    have u1 := HS2.out.froz (iy + 4) (by simpa using HBY.out) (k := 1)
    have HK8 := Lib.hid (setTwo HS2.out iy HBY.out (.int .i64 0) (.string ⟨#[]⟩))
    have HK9 := Lib.hid (HK8.out.sub (List.Sublist.cons_cons _ (List.Sublist.cons_cons _ (List.Sublist.cons_cons _ (List.Sublist.cons_cons _ (HSUB.out _))))))
    have f3 := HK8.out.cell (iy + 4) (by simpa using getSet_self HBY.out) (k := 0) rfl
    have f4 := HK8.out.cell (iy + 4) (by simpa using getSet_self HBY.out) (k := 1) rfl
    clear HS2
    go_wp2
    refine bodyPost_ret (v := .agg #[.int .i64 0, .string ⟨#[]⟩]) (by simp [results, Tryz.results23, asAddr, Result.andThen, go_sem, f3, f4]) rfl ?_
    exact ⟨rfl, gn', gd, nd', nd', none, 0, 0, rfl, by omega, by omega, HK9.out⟩
end So
end Go.Proofs.YtgfldhdmdeeknaaGreatDoor
