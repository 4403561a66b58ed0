/-
  Walk of victim.Play. Conditions: none beyond each theorem's own premises.
-/
import Derived.Test.YtfljbiobiobamabViR
import Derived.Test.YtfljbiobiobamabSlices
namespace Go.Proofs.Ytfljbiobiobamab
open Go.RowKit Go.Shelf
set_option linter.unusedVariables false
namespace Vic

theorem Fm.one (l : List Fm) : ∀ u ∈ l.flatMap Fm.cells, u.oneCell' = true := by
  intro u hu
  rw [List.mem_flatMap] at hu
  obtain ⟨x, _, hu⟩ := hu
  simp only [Fm.cells, List.mem_cons, List.not_mem_nil, or_false] at hu
  rcases hu with rfl | rfl | rfl <;> rfl
theorem fill_info : (Try.prog.info? 34).map (fun i => (i.zero, i.size, i.bytes)) = some (some (.agg #[.int .i64 0, .int .i64 0, .int .i64 0]), 3, 24) := by kernel_rfl
set_option maxHeartbeats 800000 in
theorem fclone_any (A : Option Addr) (n c : Nat) (xs : List Value) (w : World) (hr : Rd w w.heap.size 3 A n xs) (h1 : ∀ u ∈ xs, u.oneCell' = true) (hn : n * 24 ≤ 140737488355328) (hm : n ≤ 9223372036854775807) :
    Calls Try.prog 41 #[.slice A n c] w (SliceRet w 34 3 n xs) := by
  obtain ⟨ti, hti, t0, t1, t2⟩ := info_parts fill_info
  have HR := Lib.hid hr
  have H1 := Lib.hid h1
  have hnil : ∀ w, (binOp .eql 28 (.slice A n c) (.slice none 0 0)).run Try.prog w = .ok (.bool A.isNone) w := fun w => Lib.run_eql_slice_nil w 28 34 A n c 0 0 Try.underlying28
  clear hr h1
  cases A with
  | none =>
    obtain rfl : n = 0 := by
      rcases Nat.eq_zero_or_pos n with h | h
      · exact h
      · obtain ⟨b, off, hA, _⟩ := HR.out.2 h; cases hA
    obtain rfl : xs = [] := List.eq_nil_of_length_eq_zero (by have := HR.out.1; omega)
    have hnil' : ∀ w, (binOp .eql 28 (.slice none 0 c) (.slice none 0 0)).run Try.prog w = .ok (.bool true) w := hnil
    clear hnil
    go_enter Try.func41, Try.ntmps41
    go_wp2
    go_ret
    exact ⟨none, 0, Nat.le_refl _, rfl, (Sep.nil_ w).nilRow 34 3 none⟩
  | some a =>
    have hnil' : ∀ w, (binOp .eql 28 (.slice (some a) n c) (.slice none 0 0)).run Try.prog w = .ok (.bool false) w := hnil
    clear hnil
    have HS0 : Hid (Sep w (w.alloc (.cells #[] 34)) [.row 34 3 (.slice (some ⟨w.heap.size, 0, none⟩) 0 0) 0 []]) := Lib.hid (((Sep.nil_ w).alloc _).nilRow 34 3 _)
    have HRs := Lib.hid (HR.out.later HS0.out.below)
    go_enter Try.func41, Try.ntmps41
    go_wp2_with (at_builtin; refine wpList_append_sep HS0.out 0 rfl (.tmp 5) (.tmp 6) 28 rfl 34 ti (.agg #[.int .i64 0, .int .i64 0, .int .i64 0]) 3 24 Try.underlying28 hti t0 t1 t2 rfl (by omega) _ 0 _ rfl rfl _ _ n c _ rfl HRs.out H1.out (by simp only [maxLen]; omega) (by omega) ?_; intro A6 c6 w3 hc6 hs3 HA)
    go_ret
    simp only [Nat.zero_add, List.nil_append] at HA hc6 ⊢
    exact ⟨A6, c6, hc6, rfl, HA⟩

/-- a block erased -/
def ers (l : List Fm) (j : Nat) : List Fm := l.set j ⟨0, 4, (fAt l j).we + 1⟩
/-- several choices, one behind the other -/
inductive Pl (sp : Int) : Nat → List Fm → List Nat → List Fm → Prop
  | stop (l : List Fm) : Pl sp 0 l [] l
  | none (n : Nat) (l : List Fm) (k e : Int) (hw : Way l sp k e) (he : e ≠ 0) : Pl sp (n + 1) l [] l
  | worn (n : Nat) (l : List Fm) (j : Nat) (hw : Way l sp (j : Int) 0) (h : (fAt l j).we = 1048576) : Pl sp (n + 1) l [] l
  | go (n : Nat) (l : List Fm) (j : Nat) (ch : List Nat) (lf : List Fm) (hw : Way l sp (j : Int) 0) (h : (fAt l j).we ≠ 1048576) (hp : Pl sp n (ers l j) ch lf) : Pl sp (n + 1) l (j :: ch) lf
theorem Pl.uniq {sp : Int} {n : Nat} {l : List Fm} {ch ch' : List Nat} {lf lf' : List Fm} (h : Pl sp n l ch lf) : Pl sp n l ch' lf' → ch = ch' ∧ lf = lf' := by
  induction h generalizing ch' lf' with
  | stop l =>
    intro h'
    cases h'
    exact ⟨rfl, rfl⟩
  | none n l k e hw he =>
    intro h'
    cases h' with
    | none _ _ _ _ _ _ => exact ⟨rfl, rfl⟩
    | worn _ _ _ _ _ => exact ⟨rfl, rfl⟩
    | go _ _ _ _ _ hw' _ _ => exact absurd (hw.uniq hw').2 he
  | worn n l j hw h =>
    intro h'
    cases h' with
    | none _ _ _ _ _ _ => exact ⟨rfl, rfl⟩
    | worn _ _ _ _ _ => exact ⟨rfl, rfl⟩
    | go _ _ j' _ _ hw' h2 _ =>
      have e := (hw.uniq hw').1
      obtain rfl : j = j' := by omega
      exact absurd h h2
  | go n l j ch lf hw h hp ih =>
    intro h'
    cases h' with
    | none _ _ _ _ hw' he => exact absurd (hw'.uniq hw).2 he
    | worn _ _ j' hw' h2 =>
      have e := (hw.uniq hw').1
      obtain rfl : j = j' := by omega
      exact absurd h2 h
    | go _ _ j' _ _ hw' h2 hp' =>
      have e := (hw.uniq hw').1
      obtain rfl : j = j' := by omega
      obtain ⟨rfl, rfl⟩ := ih hp'
      exact ⟨rfl, rfl⟩
/-- what both Plays answer -/
inductive Res (l : List Fm) (sp tm : Int) : List Nat → List Fm → Int → Prop
  | bad (h : chkE l sp ≠ 0) : Res l sp tm [] [] (chkE l sp)
  | many (h : chkE l sp = 0) (h1 : tm < 0 ∨ tm > 400) : Res l sp tm [] [] 2
  | ok (h : chkE l sp = 0) (T : Nat) (h1 : tm = T) (h2 : T ≤ 400) (ch : List Nat) (lf : List Fm) (hp : Pl sp T l ch lf) : Res l sp tm ch lf 0
theorem Res.uniq {l : List Fm} {sp tm e e' : Int} {ch ch' : List Nat} {lf lf' : List Fm} (h : Res l sp tm ch lf e) (h' : Res l sp tm ch' lf' e') : ch = ch' ∧ lf = lf' ∧ e = e' := by
  cases h with
  | bad h => cases h' with
    | bad _ => exact ⟨rfl, rfl, rfl⟩
    | many g _ => exact absurd g h
    | ok g _ _ _ _ _ _ => exact absurd g h
  | many h h1 => cases h' with
    | bad g => exact absurd h g
    | many _ _ => exact ⟨rfl, rfl, rfl⟩
    | ok _ T g1 g2 _ _ _ => omega
  | ok h T h1 h2 ch lf hp => cases h' with
    | bad g => exact absurd h g
    | many _ g1 => omega
    | ok _ T' g1 g2 _ _ hp' =>
      obtain rfl : T = T' := by omega
      obtain ⟨rfl, rfl⟩ := hp.uniq hp'
      exact ⟨rfl, rfl, rfl⟩
theorem ers_len (l : List Fm) (j : Nat) : (ers l j).length = l.length := List.length_set ..
theorem ers_ok {l : List Fm} {j : Nat} (h : OkL l) (hj : j < l.length) (hw : (fAt l j).we ≠ 1048576) : OkL (ers l j) := by
  refine ⟨by rw [ers_len]; exact h.1, fun f hf => ?_⟩
  rcases List.mem_or_eq_of_mem_set hf with hf | rfl
  · exact h.2 f hf
  · have := (h.2 _ (fAt_mem hj)).2
    unfold Fm.ok
    simp only
    omega
theorem chk_zero {l : List Fm} {sp : Int} (h : chkE l sp = 0) : OkL l ∧ ¬ (sp < 1 ∨ sp > 1048576) := by
  unfold chkE at h
  split at h
  · next h1 =>
    split at h
    · omega
    · next h2 => exact ⟨h1, h2⟩
  · omega
/-- where Play's answers lie -/
def PRet (w0 : World) (l : List Fm) (sp tm : Int) (e : Ending) (w' : World) : Prop :=
  ∃ (A1 A2 : Option Addr) (c1 c2 : Nat) (ch : List Nat) (lf : List Fm) (er : Int), e = .returned (.tuple #[.slice A1 ch.length c1, .slice A2 lf.length c2, .int .i64 er]) ∧ Res l sp tm ch lf er ∧ ch.length ≤ 400 ∧ lf.length ≤ 4096 ∧
    Rd w' w'.heap.size 1 A1 ch.length (ch.flatMap ncell) ∧ Rd w' w'.heap.size 3 A2 lf.length (lf.flatMap Fm.cells) ∧ Below w0.heap.size w0 w'
theorem PRet.none_ {w0 w' : World} {l : List Fm} {sp tm er : Int} (h : Res l sp tm [] [] er) (hb : Below w0.heap.size w0 w') : PRet w0 l sp tm (.returned (.tuple #[.slice none 0 0, .slice none 0 0, .int .i64 er])) w' :=
  ⟨none, none, 0, 0, [], [], er, rfl, h, by simp, by simp, Rd.nil_, Rd.nil_, hb⟩

set_option maxRecDepth 100000 in
set_option maxHeartbeats 3200000 in
theorem vplay_any (A : Option Addr) (n c : Nat) (l : List Fm) (sp tm : Int) (w : World) (hr : Rd w w.heap.size 3 A n (l.flatMap Fm.cells)) (hl : l.length = n) (hn : n ≤ 9223372036854775807) :
    Calls Try.prog 17 #[.slice A n c, .int .i64 sp, .int .i64 tm] w (PRet w l sp tm) := by
  obtain ⟨ti, hti, t0, t1, t2⟩ := info_parts int_info
  have HR := Lib.hid hr
  have HL := Lib.hid hl
  have cC := Lib.hid (vcheck_any A n c l sp w hr hl hn)
  clear hr hl
  obtain ⟨ce, hce⟩ : ∃ ce, ce = chkE l sp := ⟨_, rfl⟩
  rw [← hce] at cC
  have HCE := Lib.hid hce
  clear hce
  by_cases h0 : ce = 0
  · subst h0
    have hok := chk_zero HCE.out.symm
    by_cases ht1 : tm < 0
    · have HRS := Lib.hid (Res.many HCE.out.symm (.inl ht1) (tm := tm))
      clear hok
      go_enter Try.func17, Try.ntmps17
      go_wp2_with fail
      refine cC.out.mono ?_; rintro en w1 ⟨rfl, hb1⟩
      have HB1 := Lib.hid hb1
      clear cC hb1
      go_wp2
      refine bodyPost_ret (v := .tuple #[.slice none 0 0, .slice none 0 0, .int .i64 2]) (by simp [results, Try.results17]) rfl ?_
      exact PRet.none_ HRS.out HB1.out
    · by_cases ht2 : tm > 400
      · have HRS := Lib.hid (Res.many HCE.out.symm (.inr ht2) (tm := tm))
        clear hok
        go_enter Try.func17, Try.ntmps17
        go_wp2_with fail
        refine cC.out.mono ?_; rintro en w1 ⟨rfl, hb1⟩
        have HB1 := Lib.hid hb1
        clear cC hb1
        go_wp2
        refine bodyPost_ret (v := .tuple #[.slice none 0 0, .slice none 0 0, .int .i64 2]) (by simp [results, Try.results17]) rfl ?_
        exact PRet.none_ HRS.out HB1.out
      · obtain ⟨T, rfl⟩ : ∃ T : Nat, tm = T := ⟨tm.toNat, by omega⟩
        have hT : T ≤ 400 := by omega
        have HOK := Lib.hid hok.1
        have hn4 : n ≤ 4096 := by rw [← HL.out]; exact hok.1.1
        have cK := Lib.hid (fun (W : World) (hW : Below w.heap.size w W) => fclone_any A n c (l.flatMap Fm.cells) W (HR.out.later hW) (Fm.one l) (by omega) hn)
        clear hok ht1
        go_enter Try.func17, Try.ntmps17
        go_wp2_with fail
        refine cC.out.mono ?_; rintro en w1 ⟨rfl, hb1⟩
        have HB1 := Lib.hid hb1
        clear cC hb1
        go_wp2_with fail
        refine (cK.out w1 HB1.out).mono ?_; rintro en w2 ⟨A2, c2, hc2, rfl, hs2⟩
        have HS2 : Hid (Sep w w2 [sR none 0 0 [], .row 34 3 (.slice A2 n c2) n (l.flatMap Fm.cells)]) := Lib.hid (((((Sep.nil_ w).later HB1.out).join hs2).nilRow 3 1 none).pick [1, 0] (by decide) (by simp))
        clear hs2 cK HB1
        go_wp2
        go_loopg [11, 29] T (fun g v i wr => ∃ (k : Nat) (ch : List Nat) (cur : List Fm) (A1 : Option Addr) (c1 : Nat), k ≤ T ∧ g = T - k ∧ ch.length = k ∧ v = .slice A1 k c1 ∧ i = .int .i64 k ∧ Hid (cur.length = n) ∧ Hid (OkL cur) ∧ Hid (∀ ch2 lf, Pl sp (T - k) cur ch2 lf → Pl sp T l (ch ++ ch2) lf) ∧ Sep w wr [sR A1 k c1 ch, .row 34 3 (.slice A2 n c2) n (cur.flatMap Fm.cells)])
        case atStart => exact ⟨0, [], l, none, 0, Nat.zero_le _, rfl, rfl, rfl, rfl, HL, HOK, Lib.hid (fun ch2 lf h => h), HS2.out⟩
        case round =>
          clear HS2 HL HOK
          obtain ⟨k, ch, cur, A1, c1, hk, rfl, hchl, rfl, rfl, HL, HOK, HP, hs⟩ := hrel
          have HS := Lib.hid hs
          have HCL := Lib.hid hchl
          clear hs hchl
          by_cases hlt : k < T
          · have cG := Lib.hid (vgreedy_any A2 n c2 cur sp wr (HS.out.rd 1 rfl) HL.out hn)
            have hTk : ∃ r, T - k = r + 1 := ⟨T - k - 1, by omega⟩
            obtain ⟨r, hr⟩ := hTk
            have HRR := Lib.hid hr
            clear hr
            go_wp2_with fail
            refine cG.out.mono ?_; rintro en w3 ⟨kk, er, rfl, hw3, hb3⟩
            have HS3 := Lib.hid (HS.out.later hb3)
            have HW := Lib.hid hw3
            clear cG hb3 hw3 HS
            by_cases he : er = 0
            · subst he
              obtain ⟨j, rfl, hcj⟩ : ∃ j : Nat, kk = j ∧ Cand cur sp j := by
                have h := HW.out
                cases h with
                | some j h h1 h2 h3 => exact ⟨j, rfl, h2⟩
              have hjn : j < n := by rw [← HL.out]; exact hcj.1
              clear hcj
              obtain ⟨y, hy⟩ : ∃ y, cur[j]? = some y := ⟨_, List.getElem?_eq_getElem (by rw [HL.out]; exact hjn)⟩
              have HY := Lib.hid hy
              obtain ⟨g2, rfl, _, hat⟩ := HS3.out.rowAt 1 rfl (by omega)
              have d0 : w3.cell? ⟨g2, j * 3, none⟩ = some (.int .i64 y.nd) := (hat _).1 _ (flat_get Fm.len cur j 0 y hy (by decide))
              have d1 : w3.cell? ⟨g2, j * 3 + 1, none⟩ = some (.int .i64 y.dn) := (hat _).1 _ (flat_get Fm.len cur j 1 y hy (by decide))
              have d2 : w3.cell? ⟨g2, j * 3 + 2, none⟩ = some (.int .i64 y.we) := (hat _).1 _ (flat_get Fm.len cur j 2 y hy (by decide))
              have hyo := (HOK.out.2 y (List.mem_of_getElem? hy)).2
              have j0 : (0 : Int) ≤ (j : Int) := by omega
              have j1 : (j : Int) < (n : Int) := by omega
              have hfy := fAt_eq hy
              have HFY := Lib.hid hfy
              clear hat hy hfy
              obtain ⟨yn, yd, yw⟩ := y
              simp only at d0 d1 d2 hyo
              obtain ⟨y0, y1⟩ := hyo
              by_cases hyw : yw = 1048576
              · subst hyw
                have HFP : Hid (Pl sp T l ch cur) := Lib.hid (by
                  have h := HP.out [] cur (by rw [HRR.out]; exact .worn r cur j HW.out (by rw [HFY.out]))
                  rwa [List.append_nil] at h)
                clear HP
                go_wp2
                refine bodyPost_ret (v := .tuple #[.slice A1 k c1, .slice (some ⟨g2, 0, none⟩) n c2, .int .i64 0]) (by simp [results, Try.results17]) rfl ?_
                refine ⟨A1, _, c1, c2, ch, cur, 0, by rw [HCL.out, HL.out], .ok HCE.out.symm _ rfl hT ch cur HFP.out, by rw [HCL.out]; omega, by rw [HL.out]; omega, ?_, ?_, HS3.out.below⟩
                · rw [HCL.out]; exact HS3.out.rd 0 rfl
                · rw [HL.out]; exact HS3.out.rd 1 rfl
              · have HPN : Hid (∀ ch2 lf, Pl sp (T - (k + 1)) (ers cur j) ch2 lf → Pl sp T l ((ch ++ [j]) ++ ch2) lf) := Lib.hid (fun ch2 lf h => by
                  have h2 := HP.out (j :: ch2) lf (by rw [HRR.out]; exact .go r cur j ch2 lf HW.out (by rw [HFY.out]; exact hyw) (by rw [show r = T - (k + 1) by have := HRR.out; omega]; exact h))
                  rw [List.append_assoc]
                  exact h2)
                have HOKN := Lib.hid (ers_ok HOK.out (j := j) (by rw [HL.out]; exact hjn) (by rw [HFY.out]; exact hyw))
                have HLN : Hid ((ers cur j).length = n) := Lib.hid (by rw [ers_len]; exact HL.out)
                have hz : (yw == 1048576) = false := by simpa using hyw
                have hnew := Lib.hid (Rd.of_own (own_new w3 3 #[.int .i64 (j : Int)] 1 1 rfl (by simp [maxLen]) (Nat.le_refl _)))
                clear HP HOK
                go_wp2_with (at_builtin; refine wpList_append_sep (HS3.out.alloc _) 0 rfl (.tmp 47) (.tmp 49) 37 rfl 3 ti (.int .i64 0) 1 8 Try.underlying37 hti t0 t1 t2 rfl (by omega) _ k _ rfl rfl _ _ 1 1 _ rfl hnew.out (by simp [Value.oneCell']) (by simp only [maxLen]; omega) (by omega) ?_; intro A7 c7 w7 hc7 hs7 H7'; have H7 := Lib.hid H7'; clear H7'; clear d0 d1 d2 hz hnew; obtain ⟨g', hg', _, hat⟩ := H7.out.rowAt 1 rfl (by omega); cases hg'; have d0 : w7.cell? ⟨g2, j * 3, none⟩ = some (.int .i64 yn) := (hat _).1 _ (flat_get Fm.len cur j 0 _ HY.out (by decide)); have d1 : w7.cell? ⟨g2, j * 3 + 1, none⟩ = some (.int .i64 yd) := (hat _).1 _ (flat_get Fm.len cur j 1 _ HY.out (by decide)); have d2 : w7.cell? ⟨g2, j * 3 + 2, none⟩ = some (.int .i64 yw) := (hat _).1 _ (flat_get Fm.len cur j 2 _ HY.out (by decide)); have u0 := (hat (j * 3)).2.1; have u1 := (hat (j * 3 + 1)).2.1; have u2 := (hat (j * 3 + 2)).2.1; have K := Lib.hid (H7.out.elem Fm.len 1 rfl j (by rw [HL.out]; exact hjn) (by omega) ⟨0, 4, yw + 1⟩); clear hat)
                go_roundg (T - (k + 1))
                case measure => omega
                case rel =>
                  refine ⟨k + 1, ch ++ [j], ers cur j, A7, c7, by omega, rfl, by rw [List.length_append, HCL.out]; rfl, rfl, by go_num, HLN, HOKN, HPN, ?_⟩
                  have h := K.out
                  unfold ers sR
                  rw [HFY.out, List.flatMap_append]
                  exact h
            · have HFP : Hid (Pl sp T l ch cur) := Lib.hid (by
                have h := HP.out [] cur (by rw [HRR.out]; exact .none r cur kk er HW.out he)
                rwa [List.append_nil] at h)
              have hz : (er == 0) = false := by simpa using he
              clear HP
              go_wp2
              refine bodyPost_ret (v := .tuple #[.slice A1 k c1, .slice A2 n c2, .int .i64 0]) (by simp [results, Try.results17]) rfl ?_
              refine ⟨A1, _, c1, c2, ch, cur, 0, by rw [HCL.out, HL.out], .ok HCE.out.symm _ rfl hT ch cur HFP.out, by rw [HCL.out]; omega, by rw [HL.out]; omega, ?_, ?_, HS3.out.below⟩
              · rw [HCL.out]; exact HS3.out.rd 0 rfl
              · rw [HL.out]; exact HS3.out.rd 1 rfl
          · obtain rfl : k = T := by omega
            have HFP : Hid (Pl sp k l ch cur) := Lib.hid (by
              have h := HP.out [] cur (by rw [Nat.sub_self]; exact .stop cur)
              rwa [List.append_nil] at h)
            clear HP
            go_wp2
            refine bodyPost_ret (v := .tuple #[.slice A1 k c1, .slice A2 n c2, .int .i64 0]) (by simp [results, Try.results17]) rfl ?_
            refine ⟨A1, _, c1, c2, ch, cur, 0, by rw [HCL.out, HL.out], .ok HCE.out.symm _ rfl hT ch cur HFP.out, by rw [HCL.out]; omega, by rw [HL.out]; omega, ?_, ?_, HS.out.below⟩
            · rw [HCL.out]; exact HS.out.rd 0 rfl
            · rw [HL.out]; exact HS.out.rd 1 rfl
  · have HRS : Hid (Res l sp tm [] [] ce) := Lib.hid (by rw [HCE.out]; exact .bad (by rw [← HCE.out]; exact h0))
    have hz : (ce == 0) = false := by simpa using h0
    go_enter Try.func17, Try.ntmps17
    go_wp2_with fail
    refine cC.out.mono ?_; rintro en w1 ⟨rfl, hb1⟩
    have HB1 := Lib.hid hb1
    clear cC hb1
    go_wp2
    refine bodyPost_ret (v := .tuple #[.slice none 0 0, .slice none 0 0, .int .i64 ce]) (by simp [results, Try.results17]) rfl ?_
    exact PRet.none_ HRS.out HB1.out
end Vic
end Go.Proofs.Ytfljbiobiobamab
