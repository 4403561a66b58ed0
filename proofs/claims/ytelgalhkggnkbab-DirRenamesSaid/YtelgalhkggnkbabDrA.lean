/-
  Folders: copying, putting in, striking; walks of dir.Add and dir.Remove. Conditions: none beyond each theorem's own premises.
-/
import Derived.Test.YtelgalhkggnkbabDrF
import Derived.Test.YtelgalhkggnkbabDelIns
import Derived.Test.YtelgalhkggnkbabSlices
namespace Go.Proofs.Ytelgalhkggnkbab
open Go.RowKit Go.Shelf
set_option linter.unusedVariables false
theorem shape_of' {w : World} {g : Nat} {cur : Array Value} {E : TypeId} {p : Nat × Nat} (h : w.heap[g]? = some (.cells cur E p)) : w.shape? g = some (E, cur.size) := by
  unfold World.shape?
  rw [h]
namespace Dr

theorem En.one (l : List En) : ∀ u ∈ l.flatMap En.cells, u.oneCell' = true := by
  intro u hu
  rw [List.mem_flatMap] at hu
  obtain ⟨x, _, hu⟩ := hu
  simp only [En.cells, List.mem_cons, List.not_mem_nil, or_false] at hu
  rcases hu with rfl | rfl <;> rfl
theorem entry_info : (Try.prog.info? 30).map (fun i => (i.zero, i.size, i.bytes)) = some (some (.agg #[.string ⟨#[]⟩, .int .i64 0]), 2, 24) := by kernel_rfl
set_option maxHeartbeats 800000 in
theorem eclone_any (A : Option Addr) (n c : Nat) (xs : List Value) (w : World) (hr : Rd w w.heap.size 2 A n xs) (h1 : ∀ u ∈ xs, u.oneCell' = true) (hn : n * 24 ≤ 140737488355328) (hm : n ≤ 9223372036854775807) :
    Calls Try.prog 10 #[.slice A n c] w (SliceRet w 30 2 n xs) := by
  obtain ⟨ti, hti, t0, t1, t2⟩ := info_parts entry_info
  have HR := Lib.hid hr
  have H1 := Lib.hid h1
  have hnil : ∀ w, (binOp .eql 22 (.slice A n c) (.slice none 0 0)).run Try.prog w = .ok (.bool A.isNone) w := fun w => Lib.run_eql_slice_nil w 22 30 A n c 0 0 Try.underlying22
  clear hr h1
  cases A with
  | none =>
    obtain rfl : n = 0 := by
      rcases Nat.eq_zero_or_pos n with h | h
      · exact h
      · obtain ⟨b, off, hA, _⟩ := HR.out.2 h; cases hA
    obtain rfl : xs = [] := List.eq_nil_of_length_eq_zero (by have := HR.out.1; omega)
    have hnil' : ∀ w, (binOp .eql 22 (.slice none 0 c) (.slice none 0 0)).run Try.prog w = .ok (.bool true) w := hnil
    clear hnil
    go_enter Try.func10, Try.ntmps10
    go_wp2
    go_ret
    exact ⟨none, 0, Nat.le_refl _, rfl, (Sep.nil_ w).nilRow 30 2 none⟩
  | some a =>
    have hnil' : ∀ w, (binOp .eql 22 (.slice (some a) n c) (.slice none 0 0)).run Try.prog w = .ok (.bool false) w := hnil
    clear hnil
    have HS0 : Hid (Sep w (w.alloc (.cells #[] 30)) [.row 30 2 (.slice (some ⟨w.heap.size, 0, none⟩) 0 0) 0 []]) := Lib.hid (((Sep.nil_ w).alloc _).nilRow 30 2 _)
    have HRs := Lib.hid (HR.out.later HS0.out.below)
    go_enter Try.func10, Try.ntmps10
    go_wp2_with (at_builtin; refine wpList_append_sep HS0.out 0 rfl (.tmp 5) (.tmp 6) 22 rfl 30 ti (.agg #[.string ⟨#[]⟩, .int .i64 0]) 2 24 Try.underlying22 hti t0 t1 t2 rfl (by omega) _ 0 _ rfl rfl _ _ n c _ rfl HRs.out H1.out (by simp only [maxLen]; omega) (by omega) ?_; intro A6 c6 w3 hc6 hs3 HA)
    go_ret
    simp only [Nat.zero_add, List.nil_append] at HA hc6 ⊢
    exact ⟨A6, c6, hc6, rfl, HA⟩
set_option maxRecDepth 100000 in
set_option maxHeartbeats 1600000 in
theorem delete_any (w0 w : World) (L : List It) (A : Option Addr) (m c i : Nat) (xs : List Value) (H : Sep w0 w (.row 30 2 (.slice A (m + 1) c) (m + 1) xs :: L)) (hi : i ≤ m) (hmc : m + 1 ≤ c) (hm : m + 1 ≤ 9223372036854775807) (h1 : ∀ u ∈ xs, u.oneCell' = true) :
    Calls Try.prog 32 #[.slice A (m + 1) c, .int .i64 (i : Int), .int .i64 ((i : Int) + 1)] w (fun e w' => e = .returned (.slice A m c) ∧ Sep w0 w' (.row 30 2 (.slice A m c) m (xs.take (i * 2) ++ xs.drop ((i + 1) * 2)) :: L)) := by
  obtain ⟨ti, hti, t0, t1, t2⟩ := info_parts entry_info
  obtain ⟨v, A2, A3, d, c2, c3, s0, s1, s2, s3, hS⟩ := strike_sep (P := Try.prog) H 0 (t := 22) Try.underlying22 hti t0 t1 rfl (by decide) (by omega) rfl hi hmc h1
  have HS := Lib.hid hS
  have HH := Lib.hid H
  clear H hS h1
  obtain ⟨n, hn⟩ : ∃ n, n = m + 1 := ⟨_, rfl⟩
  rw [← hn] at s0 s1 s2 s3 HH hmc hm ⊢
  have HN := Lib.hid hn
  have ne : ((i : Int) == (i : Int) + 1) = false := by simp; omega
  have ne2 : ¬ (i : Int) = (i : Int) + 1 := by omega
  clear hn
  go_enter Try.func32, Try.ntmps32
  go_upto_region 5 with (fail)
  (refine wp_region_tail 6 (by kernel_rfl) (by kernel_rfl) ?_; simp only [List.take_succ_cons, List.take_zero, List.drop_succ_cons, List.drop_zero]; repeat (go_big_quiet_step (fail)))
  refine wpQuiet_nil ?_; intro xw hw'; obtain ⟨xq, hw''⟩ := hw'; obtain ⟨xw0, xh⟩ := xq; change xw = xw0 at hw''; subst hw''
  obtain ⟨w2, w3, ha, hc, hs⟩ := HS.out xw xh
  have HS3 := Lib.hid hs
  clear hs
  go_wp2_with (first | (at_builtin; refine Lib.wpList_append_run _ rfl _ _ _ _ rfl _ _ rfl rfl _ _ (ha _) ?_))
  go_ret
  exact ⟨rfl, HS3.out⟩
set_option maxRecDepth 100000 in
set_option maxHeartbeats 3200000 in
theorem insert_any (w0 w : World) (L : List It) (A : Option Addr) (n c i gv : Nat) (xs v : List Value) (H : Sep w0 w (.row 30 2 (.slice A n c) n xs :: .cells gv 30 v :: L)) (hv : v.length = 2) (hv1 : ∀ u ∈ v, u.oneCell' = true) (h1 : ∀ u ∈ xs, u.oneCell' = true) (hi : i ≤ n) (hn : n ≤ 5864062014804) (hnc : n ≤ c) :
    Calls Try.prog 33 #[.slice A n c, .int .i64 (i : Int), .slice (some ⟨gv, 0, none⟩) 1 1] w (fun e w' => ∃ A' c', e = .returned (.slice A' (n + 1) c') ∧ n + 1 ≤ c' ∧ Sep w0 w' (.row 30 2 (.slice A' (n + 1) c') (n + 1) (xs.take (i * 2) ++ (v ++ xs.drop (i * 2))) :: .cells gv 30 v :: L)) := by
  obtain ⟨ti, hti, t0, t1, t2⟩ := info_parts entry_info
  have hs0 : ∃ q, ∀ w, (Instr.slice 22 (.slice A n c) (some (.int .i64 (i : Int))) none none).run Try.prog w = .ok q w := ⟨_, from_run (P := Try.prog) Try.underlying22 (size_of_info hti t1) A n c i hi⟩
  obtain ⟨q, hq⟩ := hs0
  have hib : i ≤ 5864062014804 := by omega
  have HH := Lib.hid H
  have HV1 := Lib.hid hv1
  have H1 := Lib.hid h1
  have hxl : xs.length = n * 2 := (H.rowHas 0 rfl).1
  have HXL := Lib.hid hxl
  have HVR : Hid (Rd w w.heap.size 2 (some ⟨gv, 0, none⟩) 1 v) := Lib.hid ⟨by rw [hv], fun _ => ⟨gv, 0, rfl, Blk.lt (H.blk 1 rfl), fun j u hj => by rw [Nat.zero_add]; exact H.cell 1 rfl hj⟩⟩
  by_cases hin : i = n
  · subst hin
    clear H hv1 h1 hxl
    have hXB : Hid (xs.take (i * 2) ++ (v ++ xs.drop (i * 2)) = xs ++ v) := Lib.hid (by rw [List.take_of_length_le (by rw [HXL.out]; exact Nat.le_refl _), List.drop_of_length_le (by rw [HXL.out]; exact Nat.le_refl _), List.append_nil])
    go_enter Try.func33, Try.ntmps33
    go_wp2_with (at_builtin; refine wpList_append_sep HH.out 0 rfl (.tmp 23) (.tmp 24) 22 rfl 30 ti (.agg #[.string ⟨#[]⟩, .int .i64 0]) 2 24 Try.underlying22 hti t0 t1 t2 rfl (by omega) _ i _ rfl rfl _ _ 1 1 _ rfl HVR.out HV1.out (by simp only [maxLen]; omega) (by omega) ?_; intro A6 c6 w3 hc6 hs3 HA; have HA' := Lib.hid HA; clear HA hs3)
    go_ret
    exact ⟨A6, c6, rfl, hc6, by rw [hXB.out]; exact HA'.out⟩
  have ne : ((i : Int) == (n : Int)) = false := by simp; omega
  have ne2 : ¬ (i : Int) = (n : Int) := by omega
  by_cases hroom : n + 1 ≤ c
  · obtain ⟨g, Ai, Aj, di, ci, cj, r1, r2, rfl, hne, hdi, rfl, s1, s2, s3, hS⟩ := put_room_sep (P := Try.prog) (t := 22) (C := 2) (i := i) Try.underlying22 hti t1 (by omega) H hv hv1 (by omega) hroom h1
    have HS := Lib.hid hS
    obtain ⟨tB, kB, hsb, hkB⟩ : ∃ tB kB, w.shape? g = some (tB, kB) ∧ kB ≠ 0 := by
      obtain ⟨g', cap', cur, hv', hh, _, _, hsz, _⟩ := (H.rowHas 0 rfl).2.resolve_left (fun h => by omega)
      cases hv'
      exact ⟨_, _, shape_of' hh, by rw [hsz]; omega⟩
    have hov : ∀ lb cb, (callFunc 42 #[.slice (some ⟨gv, 0, none⟩) 1 1, .slice (some ⟨g, (i + 1) * 2, none⟩) lb cb]).run Try.prog w = .ok (.value (.bool false)) w := fun lb cb => by
      rw [run_callFunc_extern Try.func42 (by kernel_rfl) (by kernel_rfl) (by kernel_rfl) (e := Extern.SlicesOverlaps.overlaps #[22, 22] #[4]) (by kernel_rfl),
        Lib.run_overlaps_apart w 22 4 30 Try.underlying22 2 (size_of_info hti t1) ⟨gv, 0, none⟩ ⟨g, (i + 1) * 2, none⟩ 1 1 lb cb hne _ tB _ kB (shape_of' (H.blk 1 rfl)) hsb hkB (H.froz 1 rfl) (H.froz 1 rfl)]
      rfl
    have HIN := Lib.hid (And.intro hi hnc)
    have HRM := Lib.hid hroom
    clear H hv1 h1 hxl hS hsb hkB
    generalize hqq : (i + 1) * 2 = q2 at s2 hov HS
    clear hqq
    have k1 : ¬ (c : Int) < (n : Int) + 1 := by omega
    have k2 : decide ((c : Int) < (n : Int) + 1) = false := decide_eq_false k1
    clear hi hnc hroom hin
    go_enter Try.func33, Try.ntmps33
    go_upto_region 15 with (simp only [hov])
    (refine wp_region_tail 8 (by kernel_rfl) (by kernel_rfl) ?_; simp only [List.take_succ_cons, List.take_zero, List.drop_succ_cons, List.drop_zero]; repeat (go_big_quiet_step (fail)))
    refine wpQuiet_nil ?_; intro xw hw'; obtain ⟨xq, hw''⟩ := hw'; obtain ⟨xw0, xh⟩ := xq; change xw = xw0 at hw''; subst hw''
    obtain ⟨w2, w3, ha, hc, hs⟩ := HS.out xw xh
    rw [List.append_assoc] at hs
    have HS3 := Lib.hid hs
    clear hs
    go_wp2_with (first | (at_builtin; refine wpList_copy_runI _ rfl _ _ 22 22 rfl _ _ rfl rfl (ha _) ?_; clear ha) | (at_builtin; refine wpList_copy_runI _ rfl _ _ 22 22 rfl _ _ rfl rfl (hc _) ?_; clear hc))
    go_ret
    exact ⟨_, c, rfl, HRM.out, HS3.out⟩
  · obtain rfl : c = n := by omega
    obtain ⟨A2, Ai, Aj, As, c2, di, ci, cj, cs, w1, w2, r1, r2, hc2, s1, happ, s2, s3, s4, hcp, hS⟩ := put_grow_sep (P := Try.prog) (t := 22) (tn := 3) (C := 2) (i := i) (bytes := 24) Try.underlying22 Try.underlying3 hti t0 t1 t2 rfl (by omega) H hv hv1 (by omega) h1 (by simp only [maxLen]; omega) (by omega)
    have HS := Lib.hid hS
    have HIN := Lib.hid (And.intro hi hin)
    have k1 : (c : Int) < (c : Int) + 1 := by omega
    clear H hv1 h1 hxl hS hi hin hroom hnc hq
    go_enter Try.func33, Try.ntmps33
    go_upto_region 11 with (first
      | (at_builtin; refine Lib.wpList_append_run _ rfl _ _ _ _ rfl _ _ rfl rfl _ _ (happ _) ?_; clear happ)
      | (at_builtin; refine wpList_copy_runI _ rfl _ _ 22 22 rfl _ _ rfl rfl (hcp _) ?_; clear hcp))
    (refine wp_region_tail 8 (by kernel_rfl) (by kernel_rfl) ?_; simp only [List.take_succ_cons, List.take_zero, List.drop_succ_cons, List.drop_zero]; repeat (go_big_quiet_step (fail)))
    refine wpQuiet_nil ?_; intro xw hw'; obtain ⟨xq, hw''⟩ := hw'; obtain ⟨xw0, xh⟩ := xq; change xw = xw0 at hw''; subst hw''
    obtain ⟨w3, hc, hs⟩ := HS.out xw xh
    rw [List.append_assoc] at hs
    have HS3 := Lib.hid hs
    clear hs
    go_wp2_with (at_builtin; refine wpList_copy_runI _ rfl _ _ 22 22 rfl _ _ rfl rfl (hc _) ?_; clear hc)
    go_ret
    exact ⟨_, c2, rfl, hc2, HS3.out⟩

/-- what Add answers -/
inductive AddW (l : List En) (e : En) : List En → Int → Prop
  | form (h : ¬ RightL l) : AddW l e [] 1
  | range (h : RightL l) (h1 : ¬ GoodB e.nm) : AddW l e [] 2
  | held (h : RightL l) (h1 : GoodB e.nm) (h2 : ∃ x ∈ l, x.nm = e.nm) : AddW l e [] 6
  | ok (h : RightL l) (h1 : GoodB e.nm) (h2 : ∀ x ∈ l, x.nm ≠ e.nm) (i : Nat) (h3 : ∀ m x, m < i → l[m]? = some x → ltN x.nm e.nm = true) (h4 : ∀ m x, i ≤ m → l[m]? = some x → ltN x.nm e.nm = false) : AddW l e (l.take i ++ (e :: l.drop i)) 0
/-- where a folder and an error lie -/
def ERet (w0 : World) (P : List En → Int → Prop) (e : Ending) (w' : World) : Prop :=
  ∃ (A1 : Option Addr) (c1 : Nat) (out : List En) (er : Int), e = .returned (.tuple #[.slice A1 out.length c1, .int .i64 er]) ∧ P out er ∧ Rd w' w'.heap.size 2 A1 out.length (out.flatMap En.cells) ∧ Below w0.heap.size w0 w'
theorem ERet.nil_ {w0 w' : World} {P : List En → Int → Prop} {er : Int} (h : P [] er) (hb : Below w0.heap.size w0 w') : ERet w0 P (.returned (.tuple #[.slice none 0 0, .int .i64 er])) w' := ⟨none, 0, [], er, rfl, h, Rd.nil_, hb⟩
set_option maxRecDepth 100000 in
set_option maxHeartbeats 3200000 in
theorem add_any (A : Option Addr) (n c : Nat) (l : List En) (em : ByteArray) (ei : Int) (w : World) (hr : Rd w w.heap.size 2 A n (l.flatMap En.cells)) (hl : l.length = n) (hn : n ≤ 5864062014804) :
    Calls Try.prog 20 #[.slice A n c, .agg #[.string em, .int .i64 ei]] w (ERet w (AddW l ⟨em, ei⟩)) := by
  have HS0 : Hid (Sep w (w.alloc (.cells #[.string em, .int .i64 ei] 30)) [.cells w.heap.size 30 [.string em, .int .i64 ei]]) := Lib.hid ((Sep.nil_ w).new 30 [.string em, .int .i64 ei])
  obtain ⟨rb, hrb⟩ : ∃ rb : Bool, rb = true ↔ RightL l := ⟨decide (RightL l), by simp⟩
  obtain ⟨gb2, hgb2⟩ : ∃ gb2 : Bool, gb2 = true ↔ GoodB em := ⟨decide (GoodB em), by simp⟩
  have cR := Lib.hid (fun W (hW : Below w.heap.size w W) => dright_any A n c l rb W (hr.later hW) hl (by omega) hrb)
  have cS := Lib.hid (fun W (hW : Below w.heap.size w W) => at_any A n c l em W (hr.later hW) hl (by omega))
  have cG := Lib.hid (fun W => dgood_any em gb2 W hgb2)
  have HRB := Lib.hid hrb
  have HGB := Lib.hid hgb2
  have HR := Lib.hid hr
  have HL := Lib.hid hl
  clear hr hl hrb hgb2
  go_enter Try.func20, Try.ntmps20
  go_upto_region 1 with (fail)
  generalize w.alloc (.cells #[.string em, .int .i64 ei] 30) = w1 at HS0 ⊢
  generalize w.heap.size = gb at HS0 ⊢
  have f0 := HS0.out.cell 0 rfl (k := 0) rfl
  go_wp2_with fail
  refine (cS.out w1 HS0.out.below).mono ?_; rintro en w2 ⟨p, b, rfl, hpn, hin, hat, hb2⟩
  have HS2 := Lib.hid (HS0.out.later hb2)
  have HAT := Lib.hid hat
  clear hb2 hat cS HS0 f0 hin
  have f0 := HS2.out.cell 0 rfl (k := 0) rfl
  go_wp2_with fail
  refine (cR.out w2 HS2.out.below).mono ?_; rintro en w3 ⟨rfl, hb3⟩
  have HS3 := Lib.hid (HS2.out.later hb3)
  clear hb3 cR HS2 f0
  have f0 := HS3.out.cell 0 rfl (k := 0) rfl
  cases rb with
  | false =>
    go_wp2
    go_ret2
    exact ERet.nil_ (.form (fun h => absurd (HRB.out.2 h) (by decide))) HS3.out.below
  | true =>
    have hri : RightL l := by have := HRB.out; simpa using this
    have HRI := Lib.hid hri
    clear hri HRB
    go_wp2_with fail
    refine (cG.out w3).mono ?_; rintro en w4 ⟨rfl, hb4⟩
    have HS := Lib.hid (HS3.out.later hb4)
    clear hb4 cG HS3 f0
    cases gb2 with
    | false =>
      go_wp2
      go_ret2
      exact ERet.nil_ (.range HRI.out (fun h => absurd (HGB.out.2 h) (by decide))) HS.out.below
    | true =>
      have hgd : GoodB em := by have := HGB.out; simpa using this
      have HGD := Lib.hid hgd
      clear hgd HGB
      cases b with
      | true =>
        obtain ⟨x, hx, hxn⟩ := ((HAT.out HRI.out).2.2).1 rfl
        have HXX : Hid (∃ x ∈ l, x.nm = em) := Lib.hid ⟨x, List.mem_of_getElem? hx, hxn⟩
        clear hx hxn
        go_wp2
        go_ret2
        exact ERet.nil_ (.held HRI.out HGD.out HXX.out) HS.out.below
      | false =>
        have HFIN : Hid (∀ A' c' w', Sep w w' [.row 30 2 (.slice A' (n + 1) c') (n + 1) ((l.flatMap En.cells).take (p * 2) ++ ([.string em, .int .i64 ei] ++ (l.flatMap En.cells).drop (p * 2))), .cells gb 30 [.string em, .int .i64 ei]] → ERet w (AddW l ⟨em, ei⟩) (.returned (.tuple #[.slice A' (n + 1) c', .int .i64 0])) w') := Lib.hid (fun A' c' w' H => by
          have hh := HAT.out HRI.out
          have hlen : (l.take p ++ ((⟨em, ei⟩ : En) :: l.drop p)).length = n + 1 := by
            rw [List.length_append, List.length_cons, List.length_take, List.length_drop, HL.out]
            omega
          refine ⟨A', c', _, 0, by rw [hlen], .ok HRI.out HGD.out (HAT.out.none HRI.out) p hh.1 hh.2.1, ?_, H.below⟩
          rw [hlen]
          have h := H.rd 0 rfl
          rw [flat_take En.len, flat_drop En.len] at h
          rw [List.flatMap_append, List.flatMap_cons]
          exact h)
        clear HAT
        go_upto_region 8 with (fail)
        refine wp_region_inv0 (fun ac0 L ac w' => ∃ x4 x5 x26 x27 x28 x29 x30 x31, ac = turn ac0 [(4, x4), (5, x5), (26, x26), (27, x27), (28, x28), (29, x29), (30, x30), (31, x31)] ∧ (L 0 = true → x26 = .slice A n c) ∧ (L 2 = true → x28 = .int .i64 (p : Int)) ∧ (L 3 = true → x29 = .agg #[.string em, .int .i64 ei]) ∧ (L 6 = true → x4 = x31) ∧ (L 7 = true → x5 = .int .i64 0) ∧ (L 1 = true → L 0 = true) ∧ (L 4 = true → L 3 = true) ∧ (L 5 = true → L 1 = true ∧ L 2 = true ∧ L 4 = true) ∧ (L 6 = true → L 0 = true ∧ L 1 = true ∧ L 2 = true ∧ L 3 = true ∧ L 4 = true ∧ L 5 = true) ∧ (L 7 = true → L 0 = true ∧ L 1 = true ∧ L 2 = true ∧ L 3 = true ∧ L 4 = true ∧ L 5 = true ∧ L 6 = true) ∧ (if L 5 = true then (∃ A' c', x31 = .slice A' (n + 1) c' ∧ Sep w w' [.row 30 2 (.slice A' (n + 1) c') (n + 1) ((l.flatMap En.cells).take (p * 2) ++ ([.string em, .int .i64 ei] ++ (l.flatMap En.cells).drop (p * 2))), .cells gb 30 [.string em, .int .i64 ei]]) else (if L 1 = true then (if L 4 = true then (∃ A6 c6 gv, x27 = .slice A6 n c6 ∧ n ≤ c6 ∧ x30 = .slice (some ⟨gv, 0, none⟩) 1 1 ∧ Sep w w' [.row 30 2 (.slice A6 n c6) n (l.flatMap En.cells), .cells gv 30 [.string em, .int .i64 ei], .cells gb 30 [.string em, .int .i64 ei]]) else (∃ A6 c6, x27 = .slice A6 n c6 ∧ n ≤ c6 ∧ Sep w w' [.cells gb 30 [.string em, .int .i64 ei], .row 30 2 (.slice A6 n c6) n (l.flatMap En.cells)])) else (if L 4 = true then (∃ gv, x30 = .slice (some ⟨gv, 0, none⟩) 1 1 ∧ Sep w w' [.cells gb 30 [.string em, .int .i64 ei], .cells gv 30 [.string em, .int .i64 ei]]) else Sep w w' [.cells gb 30 [.string em, .int .i64 ei]])))) rfl (by kernel_rfl) ?_ ?_ ?_
        · simp only [turn, List.foldl_cons, List.foldl_nil, List.setIfInBounds_toArray, List.set_cons_succ, List.set_cons_zero]
          exact ⟨_, _, _, _, _, _, _, _, rfl, (fun h => absurd h (by decide)), (fun h => absurd h (by decide)), (fun h => absurd h (by decide)), (fun h => absurd h (by decide)), (fun h => absurd h (by decide)), (fun h => absurd h (by decide)), (fun h => absurd h (by decide)), (fun h => absurd h (by decide)), (fun h => absurd h (by decide)), (fun h => absurd h (by decide)), by simpa using HS.out.drew⟩
        · rintro L ac w' i o ⟨x4, x5, x26, x27, x28, x29, x30, x31, ha, p0, p2, p3, p6, p7, q1, q4, q5, q6, q7, hS⟩ ho hi he
          simp only [turn, List.foldl_cons, List.foldl_nil, List.setIfInBounds_toArray, List.set_cons_succ, List.set_cons_zero] at ha ⊢
          subst ha
          rcases i with _|_|_|_|_|_|_|_|i
          all_goals cases ho
          all_goals simp [Region.binds] at he
          · have h1 : L 1 = false := by cases hh : L 1 with | false => rfl | true => (have hq := q1 hh; simp [hi] at hq)
            have h6 : L 6 = false := by cases hh : L 6 with | false => rfl | true => (have hq := q6 hh; simp [hi] at hq)
            have h7 : L 7 = false := by cases hh : L 7 with | false => rfl | true => (have hq := q7 hh; simp [hi] at hq)
            have h5 : L 5 = false := by cases hh : L 5 with | false => rfl | true => (have hq := q5 hh; simp [h1] at hq)
            refine wpOp_step rfl (fun K hK => ?_)
            go_simp
            exact hK _ _ ⟨_, _, _, _, _, _, _, _, rfl, (fun _ => rfl), (by first | exact p2 | exact fun _ => rfl), (by first | exact p3 | exact fun _ => rfl), (by simp [h6]), (by simp [h7]), (by simp [h1]), (by simpa using q4), (by simp [h5]), (by simp [h6]), (by simp [h7]), (by simpa [h1, h6, h7, h5] using hS)⟩
          · have h5 : L 5 = false := by cases hh : L 5 with | false => rfl | true => (have hq := q5 hh; simp [hi] at hq)
            have h6 : L 6 = false := by cases hh : L 6 with | false => rfl | true => (have hq := q6 hh; simp [hi] at hq)
            have h7 : L 7 = false := by cases hh : L 7 with | false => rfl | true => (have hq := q7 hh; simp [hi] at hq)
            obtain rfl := p0 (by simp [he])
            by_cases hj : L 4 = true
            · rw [if_neg (by simp [h5]), if_neg (by simp [hi]), if_pos hj] at hS
              obtain ⟨gv, rfl, hS⟩ := hS
              refine wpOp_step rfl (fun K hK => ?_)
              go_simp
              refine (eclone_any A n c (l.flatMap En.cells) w' (HR.out.later hS.below) (En.one l) (by omega) (by omega)).mono ?_; rintro en w5 ⟨A6, c6, hc6, rfl, K5⟩
              exact hK _ _ ⟨_, _, _, _, _, _, _, _, rfl, (by first | exact p0 | exact fun _ => rfl), (by first | exact p2 | exact fun _ => rfl), (by first | exact p3 | exact fun _ => rfl), (by simp [h6]), (by simp [h7]), (by simp [he]), (by simpa using q4), (by simp [h5]), (by simp [h6]), (by simp [h7]), (by rw [if_neg (by simp [h5]), if_pos (by simp), if_pos (by simpa using hj)]; exact ⟨A6, c6, gv, rfl, hc6, rfl, (hS.join K5).pick [2, 1, 0] (by decide) (by simp)⟩)⟩
            · rw [if_neg (by simp [h5]), if_neg (by simp [hi]), if_neg hj] at hS
              refine wpOp_step rfl (fun K hK => ?_)
              go_simp
              refine (eclone_any A n c (l.flatMap En.cells) w' (HR.out.later hS.below) (En.one l) (by omega) (by omega)).mono ?_; rintro en w5 ⟨A6, c6, hc6, rfl, K5⟩
              exact hK _ _ ⟨_, _, _, _, _, _, _, _, rfl, (by first | exact p0 | exact fun _ => rfl), (by first | exact p2 | exact fun _ => rfl), (by first | exact p3 | exact fun _ => rfl), (by simp [h6]), (by simp [h7]), (by simp [he]), (by simpa using q4), (by simp [h5]), (by simp [h6]), (by simp [h7]), (by rw [if_neg (by simp [h5]), if_pos (by simp), if_neg (by simpa using hj)]; exact ⟨A6, c6, rfl, hc6, hS.join K5⟩)⟩
          · have h5 : L 5 = false := by cases hh : L 5 with | false => rfl | true => (have hq := q5 hh; simp [hi] at hq)
            have h6 : L 6 = false := by cases hh : L 6 with | false => rfl | true => (have hq := q6 hh; simp [hi] at hq)
            have h7 : L 7 = false := by cases hh : L 7 with | false => rfl | true => (have hq := q7 hh; simp [hi] at hq)
            refine wpOp_step rfl (fun K hK => ?_)
            go_simp
            exact hK _ _ ⟨_, _, _, _, _, _, _, _, rfl, (by first | exact p0 | exact fun _ => rfl), (fun _ => rfl), (by first | exact p3 | exact fun _ => rfl), (by simp [h6]), (by simp [h7]), (by simpa using q1), (by simpa using q4), (by simp [h5]), (by simp [h6]), (by simp [h7]), (by simpa [h5, h6, h7] using hS)⟩
          · have h4 : L 4 = false := by cases hh : L 4 with | false => rfl | true => (have hq := q4 hh; simp [hi] at hq)
            have h6 : L 6 = false := by cases hh : L 6 with | false => rfl | true => (have hq := q6 hh; simp [hi] at hq)
            have h7 : L 7 = false := by cases hh : L 7 with | false => rfl | true => (have hq := q7 hh; simp [hi] at hq)
            have h5 : L 5 = false := by cases hh : L 5 with | false => rfl | true => (have hq := q5 hh; simp [h4] at hq)
            have f0 : w'.cell? ⟨gb, 0, none⟩ = some (.string em) := by
              rw [if_neg (by simp [h5])] at hS
              by_cases hl : L 1 = true
              · rw [if_pos hl, if_neg (by simp [h4])] at hS
                obtain ⟨A6, c6, _, _, S⟩ := hS
                exact S.cell 0 rfl (k := 0) rfl
              · rw [if_neg hl, if_neg (by simp [h4])] at hS
                exact hS.cell 0 rfl (k := 0) rfl
            have f1 : w'.cell? ⟨gb, 1, none⟩ = some (.int .i64 ei) := by
              rw [if_neg (by simp [h5])] at hS
              by_cases hl : L 1 = true
              · rw [if_pos hl, if_neg (by simp [h4])] at hS
                obtain ⟨A6, c6, _, _, S⟩ := hS
                exact S.cell 0 rfl (k := 1) rfl
              · rw [if_neg hl, if_neg (by simp [h4])] at hS
                exact hS.cell 0 rfl (k := 1) rfl
            refine wpOp_step rfl (fun K hK => ?_)
            go_simp
            exact hK _ _ ⟨_, _, _, _, _, _, _, _, rfl, (by first | exact p0 | exact fun _ => rfl), (by first | exact p2 | exact fun _ => rfl), (fun _ => rfl), (by simp [h6]), (by simp [h7]), (by simpa using q1), (by simp [h4]), (by simp [h5]), (by simp [h6]), (by simp [h7]), (by simpa [h4, h6, h7, h5] using hS)⟩
          · have h5 : L 5 = false := by cases hh : L 5 with | false => rfl | true => (have hq := q5 hh; simp [hi] at hq)
            have h6 : L 6 = false := by cases hh : L 6 with | false => rfl | true => (have hq := q6 hh; simp [hi] at hq)
            have h7 : L 7 = false := by cases hh : L 7 with | false => rfl | true => (have hq := q7 hh; simp [hi] at hq)
            obtain rfl := p3 (by simp [he])
            by_cases hj : L 1 = true
            · rw [if_neg (by simp [h5]), if_pos hj, if_neg (by simp [hi])] at hS
              obtain ⟨A6, c6, rfl, hc6, hS⟩ := hS
              have hN := hS.new 30 [.string em, .int .i64 ei]
              refine wpOp_step rfl (fun K hK => ?_)
              go_simp
              exact hK _ _ ⟨_, _, _, _, _, _, _, _, rfl, (by first | exact p0 | exact fun _ => rfl), (by first | exact p2 | exact fun _ => rfl), (by first | exact p3 | exact fun _ => rfl), (by simp [h6]), (by simp [h7]), (by simpa using q1), (by simp [he]), (by simp [h5]), (by simp [h6]), (by simp [h7]), (by rw [if_neg (by simp [h5]), if_pos (by simpa using hj), if_pos (by simp)]; exact ⟨A6, c6, _, rfl, hc6, rfl, hN.pick [1, 2, 0] (by decide) (by simp)⟩)⟩
            · rw [if_neg (by simp [h5]), if_neg hj, if_neg (by simp [hi])] at hS
              have hN := hS.new 30 [.string em, .int .i64 ei]
              refine wpOp_step rfl (fun K hK => ?_)
              go_simp
              exact hK _ _ ⟨_, _, _, _, _, _, _, _, rfl, (by first | exact p0 | exact fun _ => rfl), (by first | exact p2 | exact fun _ => rfl), (by first | exact p3 | exact fun _ => rfl), (by simp [h6]), (by simp [h7]), (by simpa using q1), (by simp [he]), (by simp [h5]), (by simp [h6]), (by simp [h7]), (by rw [if_neg (by simp [h5]), if_neg (by simpa using hj), if_pos (by simp)]; exact ⟨_, rfl, hN⟩)⟩
          · have h6 : L 6 = false := by cases hh : L 6 with | false => rfl | true => (have hq := q6 hh; simp [hi] at hq)
            have h7 : L 7 = false := by cases hh : L 7 with | false => rfl | true => (have hq := q7 hh; simp [hi] at hq)
            obtain rfl := p2 (by simp [he])
            have t1 : L 1 = true := by simp [he]
            have t4 : L 4 = true := by simp [he]
            rw [if_neg (by simp [hi]), if_pos t1, if_pos t4] at hS
            obtain ⟨A6, c6, gv, rfl, hc6, rfl, hS⟩ := hS
            refine wpOp_step rfl (fun K hK => ?_)
            go_simp
            refine (insert_any w w' _ A6 n c6 p gv (l.flatMap En.cells) [.string em, .int .i64 ei] hS rfl (by simp [Value.oneCell']) (En.one l) hpn (by omega) hc6).mono ?_; rintro en w5 ⟨A', c', rfl, hc', K5⟩
            exact hK _ _ ⟨_, _, _, _, _, _, _, _, rfl, (by first | exact p0 | exact fun _ => rfl), (by first | exact p2 | exact fun _ => rfl), (by first | exact p3 | exact fun _ => rfl), (by simp [h6]), (by simp [h7]), (by simpa using q1), (by simpa using q4), (by simp [he]), (by simp [h6]), (by simp [h7]), (by rw [if_pos (by simp)]; exact ⟨A', c', rfl, K5.pick [0, 2] (by decide) (by simp)⟩)⟩
          · have h7 : L 7 = false := by cases hh : L 7 with | false => rfl | true => (have hq := q7 hh; simp [hi] at hq)
            refine wpOp_step rfl (fun K hK => ?_)
            go_simp
            exact hK _ _ ⟨_, _, _, _, _, _, _, _, rfl, (by first | exact p0 | exact fun _ => rfl), (by first | exact p2 | exact fun _ => rfl), (by first | exact p3 | exact fun _ => rfl), (fun _ => rfl), (by simp [h7]), (by simpa using q1), (by simpa using q4), (by simpa using q5), (by simp [he]), (by simp [h7]), (by simpa [h7] using hS)⟩
          · refine wpOp_step rfl (fun K hK => ?_)
            go_simp
            exact hK _ _ ⟨_, _, _, _, _, _, _, _, rfl, (by first | exact p0 | exact fun _ => rfl), (by first | exact p2 | exact fun _ => rfl), (by first | exact p3 | exact fun _ => rfl), (by first | exact p6 | exact fun _ => rfl), (fun _ => rfl), (by simpa using q1), (by simpa using q4), (by simpa using q5), (by simpa using q6), (by simp [he]), (by simpa using hS)⟩
        · rintro L ac w' ⟨x4, x5, x26, x27, x28, x29, x30, x31, ha, p0, p2, p3, p6, p7, q1, q4, q5, q6, q7, hS⟩ hall
          have t1 := hall 1 (by decide)
          have t4 := hall 4 (by decide)
          have t5 := hall 5 (by decide)
          rw [if_pos t5] at hS
          obtain ⟨A', c', rfl, hS⟩ := hS
          obtain rfl := p0 (hall 0 (by decide))
          obtain rfl := p2 (hall 2 (by decide))
          obtain rfl := p3 (hall 3 (by decide))
          obtain rfl := p6 (hall 6 (by decide))
          obtain rfl := p7 (hall 7 (by decide))
          simp only [turn, List.foldl_cons, List.foldl_nil, List.setIfInBounds_toArray, List.set_cons_succ, List.set_cons_zero] at ha
          subst ha
          clear q1 q4 q5 q6 q7  t1 t4 t5
          have HS9 := Lib.hid hS
          clear hS
          go_wp2
          go_ret2
          exact HFIN.out A' c' _ HS9.out
end Dr
end Go.Proofs.Ytelgalhkggnkbab
