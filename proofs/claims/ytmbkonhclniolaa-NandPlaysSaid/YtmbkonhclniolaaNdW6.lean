/-
  Walks of nand.New, nand.Play and of the reference's DPlay. Conditions: none.
-/
import Derived.Test.YtmbkonhclniolaaNdW5
namespace Go.Proofs.Ytmbkonhclniolaa
open Go.RowKit
set_option linter.unusedVariables false
namespace Nd

theorem errno_info : (Try.prog.info? 25).map (fun i => (i.zero, i.size, i.bytes)) = some (some (.int .i64 0), 1, 8) := by kernel_rfl
theorem drop_at {α : Type} {l : List α} {k : Nat} {x : α} (h : l[k]? = some x) : l.drop k = x :: l.drop (k + 1) := by
  obtain ⟨h1, h2⟩ := List.getElem?_eq_some_iff.1 h
  rw [List.drop_eq_getElem_cons h1, h2]
theorem Op.facts {w wr : World} {b off Bd k : Nat} {l : List Op} {x : Op} (hb : b < Bd) (hB : Below Bd w wr) (hc : ∀ (i j : Nat) (x : Op) (u : Value), l[i]? = some x → x.cells[j]? = some u → w.cell? ⟨b, off + (i * 4 + j), none⟩ = some u)
    (hx : l[k]? = some x) : wr.cell? ⟨b, off + k * 4, none⟩ = some (.int .i64 x.kind) ∧ wr.cell? ⟨b, off + k * 4 + 1, none⟩ = some (.int .i64 x.block) ∧ wr.cell? ⟨b, off + k * 4 + 2, none⟩ = some (.int .i64 x.page) ∧ wr.cell? ⟨b, off + k * 4 + 3, none⟩ = some (.int .i64 x.data) :=
  ⟨(hB.cell hb).trans (hc k 0 x _ hx rfl), (hB.cell hb).trans (hc k 1 x _ hx rfl), (hB.cell hb).trans (hc k 2 x _ hx rfl), (hB.cell hb).trans (hc k 3 x _ hx rfl)⟩
theorem way_len {l out : List B} {o : Op} {n : Int} (hrt : Rt l) (hw : Way l o out n 0) : out.length = 8 := by
  obtain ⟨bi, x, y, _, _, _, rfl⟩ := way_done hw
  rw [List.length_set]; exact hrt.1
theorem StepRet.eight {w w' : World} {out : List B} {n e : Int} {en : Ending} (hs : StepRet w out n e en w') (h : out.length = 8) :
    ∃ A c, 8 ≤ c ∧ en = .returned (.tuple #[.slice A 8 c, .int .i64 n, .int .i64 e]) ∧ Sep w w' [.row 31 6 (.slice A 8 c) 8 (out.flatMap B.cells)] := by
  unfold StepRet at hs
  rw [h] at hs
  exact hs
theorem make_blocks : ∃ M : List Value, M = new8.flatMap B.cells ∧ ∀ W, (Instr.makeSlice 22 (.int .i64 8) (.int .i64 8)).run Try.prog W = .ok (.slice (some ⟨W.heap.size, 0, none⟩) 8 8) (W.alloc (.cells M.toArray 31)) := by
  obtain ⟨ti, hti, t0, t1, t2⟩ := info_parts block_info
  refine ⟨_, rfl, fun W => ?_⟩
  have := run_make (P := Try.prog) W 22 31 ti (.agg #[.int .i64 0, .int .i64 0, .int .i64 0, .int .i64 0, .int .i64 0, .int .i64 0]) Try.underlying22 hti t0 .i64 .i64 8 8 (by omega) (Int.le_refl _) (by rw [t2]; decide) (by omega)
  rw [t1] at this
  rw [show (new8.flatMap B.cells).toArray = madeCells (Value.agg #[.int .i64 0, .int .i64 0, .int .i64 0, .int .i64 0, .int .i64 0, .int .i64 0]).cells (Int.toNat 8 * 6) by kernel_rfl]
  exact this
set_option maxHeartbeats 400000 in
theorem new_any (w : World) : Calls Try.prog 12 #[] w (SliceRet w 31 6 8 (new8.flatMap B.cells)) := by
  obtain ⟨M, hM, hmk⟩ := make_blocks
  have HM := Lib.hid hM
  clear hM
  go_enter Try.func12, Try.ntmps12
  go_wp2
  go_ret
  refine ⟨_, 8, Nat.le_refl _, rfl, ?_⟩
  rw [← HM.out]
  exact (Sep.nil_ w).newRow 31 6 8 M (by rw [HM.out]; rfl) (by simp [maxLen])

/-- where a loop over the operations stands -/
def AtP (w : World) (ops : List Op) (ES RS : List Int) (lf : List B) (n : Nat) (g : Nat) (v5 v6 v7 i : Value) (wr : World) : Prop :=
  ∃ k : Nat, k ≤ n ∧ g = n - k ∧ i = .int .i64 k ∧ ∃ (A5 A6 A7 : Option Addr) (c5 c6 c7 : Nat) (lc : List B) (es rs : List Int), v5 = .slice A5 8 c5 ∧ v6 = .slice A6 k c6 ∧ v7 = .slice A7 rs.length c7 ∧ Hid (lc.length = 8) ∧
    Hid (∃ es' rs', Plays lc (ops.drop k) es' rs' lf ∧ ES = es ++ es' ∧ RS = rs ++ rs') ∧ rs.length ≤ k ∧ Hid (es.length = k) ∧
    Sep w wr [.row 31 6 (.slice A5 8 c5) 8 (lc.flatMap B.cells), .row 25 1 (.slice A6 k c6) k (es.flatMap icell), .row 3 1 (.slice A7 rs.length c7) rs.length (rs.flatMap icell)]
def PlayRet (w : World) (es rs : List Int) (lf : List B) (en : Ending) (w' : World) : Prop :=
  ∃ A1 c1 A2 c2 A3 c3, en = .returned (.tuple #[.slice A1 es.length c1, .slice A2 rs.length c2, .slice A3 8 c3]) ∧
    Sep w w' [.row 25 1 (.slice A1 es.length c1) es.length (es.flatMap icell), .row 3 1 (.slice A2 rs.length c2) rs.length (rs.flatMap icell), .row 31 6 (.slice A3 8 c3) 8 (lf.flatMap B.cells)]

set_option maxRecDepth 100000 in
set_option maxHeartbeats 3200000 in
theorem play_any (A : Option Addr) (n c : Nat) (ops : List Op) (ES RS : List Int) (lf : List B) (w : World) (hr : Rd w w.heap.size 4 A n (ops.flatMap Op.cells)) (hl : ops.length = n) (hn : n * 32 ≤ 140737488351232) (hp : Plays new8 ops ES RS lf) :
    Calls Try.prog 15 #[.slice A n c] w (PlayRet w ES RS lf) := by
  obtain ⟨ei, hei, ez0, ez1, ez2⟩ := info_parts errno_info
  obtain ⟨ii, hii, iz0, iz1, iz2⟩ := info_parts int_info
  have HR := Lib.hid hr
  have HL := Lib.hid hl
  have HF : Hid (∃ es' rs', Plays new8 (ops.drop 0) es' rs' lf ∧ ES = [] ++ es' ∧ RS = [] ++ rs') := Lib.hid ⟨ES, RS, hp, rfl, rfl⟩
  clear hr hl hp
  go_enter Try.func15, Try.ntmps15
  go_wp2_with fail
  refine (new_any w).mono ?_; rintro en w1 ⟨A5, c5, hc5, rfl, K⟩
  have S1 := Lib.hid ((K.nilRow 25 1 none).nilRow 3 1 none)
  clear K
  go_wp2
  go_loopg [5, 6, 7, 16] n (fun g v5 v6 v7 i wr => AtP w ops ES RS lf n g v5 v6 v7 i wr)
  case atStart => exact ⟨0, Nat.zero_le _, rfl, rfl, A5, none, none, c5, 0, 0, new8, [], [], rfl, rfl, rfl, Lib.hid rfl, HF, Nat.le_refl _, Lib.hid rfl, S1.out⟩
  case round =>
    clear S1 HF
    obtain ⟨k, hk, rfl, rfl, A5, A6, A7, c5, c6, c7, lc, es, rs, rfl, rfl, rfl, HLC, HF, hrk, HEL, hs⟩ := hrel
    have HS := Lib.hid hs
    clear hs
    by_cases hlt : k < n
    · obtain ⟨b, off, rfl, hb, hc⟩ := HR.out.at_ Op.len (by omega)
      obtain ⟨o, ho⟩ : ∃ o, ops[k]? = some o := ⟨_, List.getElem?_eq_getElem (by rw [HL.out]; exact hlt)⟩
      obtain ⟨q0, q1, q2, q3⟩ := Op.facts hb HS.out.below hc ho
      have i0 : (0 : Int) ≤ (k : Int) := by omega
      have i1 : (k : Int) < (n : Int) := by omega
      have HSx : Hid (Sep w (wr.alloc (.cells #[.int .i64 o.kind, .int .i64 o.block, .int .i64 o.page, .int .i64 o.data] 24)) [.row 31 6 (.slice A5 8 c5) 8 (lc.flatMap B.cells), .row 25 1 (.slice A6 k c6) k (es.flatMap icell), .row 3 1 (.slice A7 rs.length c7) rs.length (rs.flatMap icell), .cells wr.heap.size 24 o.cells]) := Lib.hid (HS.out.new 24 o.cells)
      have HW : Hid ((∃ out m e, Way lc o out m e ∧ Rt lc ∧ e ≠ 0 ∧ ∃ es' rs', Plays lc (ops.drop (k + 1)) es' rs' lf ∧ ES = (es ++ [e]) ++ es' ∧ RS = rs ++ rs') ∨
          (∃ out m, Way lc o out m 0 ∧ Rt lc ∧ (o.kind == 3) = false ∧ ∃ es' rs', Plays out (ops.drop (k + 1)) es' rs' lf ∧ ES = (es ++ [0]) ++ es' ∧ RS = rs ++ rs') ∨
          (∃ out m, Way lc o out m 0 ∧ Rt lc ∧ (o.kind == 3) = true ∧ ∃ es' rs', Plays out (ops.drop (k + 1)) es' rs' lf ∧ ES = (es ++ [0]) ++ es' ∧ RS = (rs ++ [m]) ++ rs')) := Lib.hid (by
        obtain ⟨es', rs', h1, h2, h3⟩ := HF.out
        rw [drop_at ho] at h1
        cases h1 with
        | no hw hl he hs => exact .inl ⟨_, _, _, hw, hl, he, _, _, hs, by rw [h2]; simp, h3⟩
        | yes hw hl hk hs => exact .inr (.inl ⟨_, _, hw, hl, hk, _, _, hs, by rw [h2]; simp, h3⟩)
        | read hw hl hk hs => exact .inr (.inr ⟨_, _, hw, hl, hk, _, _, hs, by rw [h2]; simp, by rw [h3]; simp⟩))
      clear hc ho HF
      go_upto_region 7 with (fail)
      clear HS q0 q1 q2 q3
      generalize wr.alloc (.cells #[.int .i64 o.kind, .int .i64 o.block, .int .i64 o.page, .int .i64 o.data] 24) = wo at HSx ⊢
      generalize wr.heap.size = gx at HSx ⊢
      have p0 := HSx.out.cell 3 rfl (k := 0) rfl
      have p1 := HSx.out.cell 3 rfl (k := 1) rfl
      have p2 := HSx.out.cell 3 rfl (k := 2) rfl
      have p3 := HSx.out.cell 3 rfl (k := 3) rfl
      rcases HW.out with ⟨out, m, e, hw, hrt, he, hN⟩ | ⟨out, m, hw, hrt, hkd, hN⟩ | ⟨out, m, hw, hrt, hkd, hN⟩
      · have HN := Lib.hid hN
        have cS := Lib.hid (step_no A5 c5 lc out o m e wo (HSx.out.rd 0 rfl) hrt hw he)
        have he1 : (e != 0) = true := by simpa using he
        have he2 : (e == 0) = false := by simpa using he
        have HEL' : Hid ((es ++ [e]).length = k + 1) := Lib.hid (by rw [List.length_append, HEL.out]; rfl)
        clear hw hrt hN HW he
        go_wp2_with fail
        refine cS.out.mono ?_; rintro en w1 ⟨A, c, hc', rfl, K⟩
        have HS1 := Lib.hid ((HSx.out.join K).pick [0, 1, 2, 3] (by decide) (by simp))
        clear K HSx p0 p1 p2 p3 cS
        have f0 := HS1.out.cell 3 rfl (k := 0) rfl
        have hnew := Lib.hid (Rd.of_own (own_new w1 25 #[.int .i64 e] 1 1 rfl (by simp [maxLen]) (Nat.le_refl _)))
        go_wp2_with (at_builtin; refine wpList_append_sep (HS1.out.alloc _) 1 rfl (.tmp 27) (.tmp 29) 36 rfl 25 ei (.int .i64 0) 1 8 Try.underlying36 hei ez0 ez1 ez2 rfl (by omega) _ k _ rfl rfl _ _ 1 1 _ rfl hnew.out (by simp [Value.oneCell']) (by simp only [maxLen]; omega) (by omega) ?_; intro A8 c8 w8 hc8 hs8 H8'; have f8 := H8'.cell 3 rfl (k := 0) rfl; have H8 := Lib.hid H8'; clear H8')
        go_roundg (n - (k + 1))
        case measure => omega
        case rel => exact ⟨k + 1, by omega, rfl, by go_num, A5, A8, A7, c5, c8, c7, lc, es ++ [e], rs, rfl, rfl, rfl, HLC, HN, by omega, HEL', by rw [List.flatMap_append]; exact H8.out.pick [0, 1, 2] (by decide) (by simp [pickL])⟩
      · have HN := Lib.hid hN
        have cS := Lib.hid (step_yes A5 c5 lc out o m wo (HSx.out.rd 0 rfl) hrt hw)
        have HEL' : Hid ((es ++ [0]).length = k + 1) := Lib.hid (by rw [List.length_append, HEL.out]; rfl)
        have HLO : Hid (out.length = 8) := Lib.hid (way_len hrt hw)
        clear hw hrt hN HW
        go_wp2_with fail
        refine cS.out.mono ?_; intro en w1 hst; obtain ⟨A, c, hc', rfl, K⟩ := hst.eight HLO.out; clear hst
        have HS1 := Lib.hid ((HSx.out.join K).pick [4, 1, 2, 3] (by decide) (by simp))
        clear K HSx p0 p1 p2 p3 cS
        have f0 := HS1.out.cell 3 rfl (k := 0) rfl
        have hnew := Lib.hid (Rd.of_own (own_new w1 25 #[.int .i64 0] 1 1 rfl (by simp [maxLen]) (Nat.le_refl _)))
        go_wp2_with (at_builtin; refine wpList_append_sep (HS1.out.alloc _) 1 rfl (.tmp 27) (.tmp 29) 36 rfl 25 ei (.int .i64 0) 1 8 Try.underlying36 hei ez0 ez1 ez2 rfl (by omega) _ k _ rfl rfl _ _ 1 1 _ rfl hnew.out (by simp [Value.oneCell']) (by simp only [maxLen]; omega) (by omega) ?_; intro A8 c8 w8 hc8 hs8 H8'; have f8 := H8'.cell 3 rfl (k := 0) rfl; have H8 := Lib.hid H8'; clear H8')
        go_roundg (n - (k + 1))
        case measure => omega
        case rel => exact ⟨k + 1, by omega, rfl, by go_num, A, A8, A7, c, c8, c7, out, es ++ [0], rs, rfl, rfl, rfl, HLO, HN, by omega, HEL', by rw [List.flatMap_append]; exact H8.out.pick [0, 1, 2] (by decide) (by simp [pickL])⟩
      · have HN := Lib.hid hN
        have cS := Lib.hid (step_yes A5 c5 lc out o m wo (HSx.out.rd 0 rfl) hrt hw)
        have HEL' : Hid ((es ++ [0]).length = k + 1) := Lib.hid (by rw [List.length_append, HEL.out]; rfl)
        have HLO : Hid (out.length = 8) := Lib.hid (way_len hrt hw)
        clear hw hrt hN HW
        go_wp2_with fail
        refine cS.out.mono ?_; intro en w1 hst; obtain ⟨A, c, hc', rfl, K⟩ := hst.eight HLO.out; clear hst
        have HS1 := Lib.hid ((HSx.out.join K).pick [4, 1, 2, 3] (by decide) (by simp))
        clear K HSx p0 p1 p2 p3 cS
        have f0 := HS1.out.cell 3 rfl (k := 0) rfl
        have hnew := Lib.hid (Rd.of_own (own_new w1 25 #[.int .i64 0] 1 1 rfl (by simp [maxLen]) (Nat.le_refl _)))
        go_upto_region 12 with (at_builtin; refine wpList_append_sep (HS1.out.alloc _) 1 rfl (.tmp 27) (.tmp 29) 36 rfl 25 ei (.int .i64 0) 1 8 Try.underlying36 hei ez0 ez1 ez2 rfl (by omega) _ k _ rfl rfl _ _ 1 1 _ rfl hnew.out (by simp [Value.oneCell']) (by simp only [maxLen]; omega) (by omega) ?_; intro A8 c8 w8 hc8 hs8 H8'; have f8 := H8'.cell 3 rfl (k := 0) rfl; have H8 := Lib.hid H8'; clear H8')
        clear f8 f0 hnew
        have hnew := Lib.hid (Rd.of_own (own_new w8 3 #[.int .i64 m] 1 1 rfl (by simp [maxLen]) (Nat.le_refl _)))
        go_wp2_with (at_builtin; refine wpList_append_sep (H8.out.alloc _) 2 rfl (.tmp 37) (.tmp 39) 37 rfl 3 ii (.int .i64 0) 1 8 Try.underlying37 hii iz0 iz1 iz2 rfl (by omega) _ rs.length _ rfl rfl _ _ 1 1 _ rfl hnew.out (by simp [Value.oneCell']) (by simp only [maxLen]; omega) (by omega) ?_; intro A9 c9 w9 hc9 hs9 H9'; have H9 := Lib.hid H9'; clear H9')
        go_roundg (n - (k + 1))
        case measure => omega
        case rel => exact ⟨k + 1, by omega, rfl, by go_num, A, A8, A9, c, c8, c9, out, es ++ [0], rs ++ [m], rfl, rfl, by rw [List.length_append]; rfl, HLO, HN, by rw [List.length_append]; simp; omega, HEL', by rw [List.flatMap_append, List.flatMap_append, List.length_append]; exact H9.out.pick [0, 1, 2] (by decide) (by simp [pickL])⟩
    · obtain rfl : k = n := by omega
      obtain ⟨es', rs', h1, h2, h3⟩ := HF.out
      rw [List.drop_of_length_le (by rw [HL.out]; omega)] at h1
      cases h1
      simp only [List.append_nil] at h2 h3
      subst h2 h3
      have hel := HEL.out
      subst hel
      go_wp2
      refine bodyPost_ret (v := .tuple #[.slice A6 ES.length c6, .slice A7 RS.length c7, .slice A5 8 c5]) (by simp [results, Try.results15]) rfl ?_
      exact ⟨A6, c6, A7, c7, A5, c5, rfl, HS.out.pick [1, 2, 0] (by decide) (by simp)⟩

set_option maxRecDepth 100000 in
set_option maxHeartbeats 3200000 in
theorem dplay_any (A : Option Addr) (n c : Nat) (ops : List Op) (ES RS : List Int) (lf : List B) (w : World) (hr : Rd w w.heap.size 4 A n (ops.flatMap Op.cells)) (hl : ops.length = n) (hn : n * 32 ≤ 140737488351232) (hp : Plays new8 ops ES RS lf) :
    Calls Try.prog 16 #[.slice A n c] w (PlayRet w ES RS lf) := by
  obtain ⟨ei, hei, ez0, ez1, ez2⟩ := info_parts errno_info
  obtain ⟨ii, hii, iz0, iz1, iz2⟩ := info_parts int_info
  obtain ⟨M, hM, hmk⟩ := make_blocks
  have HM := Lib.hid hM
  have HR := Lib.hid hr
  have HL := Lib.hid hl
  have HF : Hid (∃ es' rs', Plays new8 (ops.drop 0) es' rs' lf ∧ ES = [] ++ es' ∧ RS = [] ++ rs') := Lib.hid ⟨ES, RS, hp, rfl, rfl⟩
  have K := (Sep.nil_ w).newRow 31 6 8 M (by rw [hM]; rfl) (by simp [maxLen])
  have S1 := Lib.hid ((K.nilRow 25 1 none).nilRow 3 1 none)
  clear hr hl hp K hM
  go_enter Try.func16, Try.ntmps16
  go_wp2
  go_loopg [5, 6, 7, 16] n (fun g v5 v6 v7 i wr => AtP w ops ES RS lf n g v5 v6 v7 i wr)
  case atStart =>
    exact ⟨0, Nat.zero_le _, rfl, rfl, _, none, none, 8, 0, 0, new8, [], [], rfl, rfl, rfl, Lib.hid rfl, HF, Nat.le_refl _, Lib.hid rfl, by rw [← HM.out]; exact S1.out⟩
  case round =>
    clear S1 HF hmk
    obtain ⟨k, hk, rfl, rfl, A5, A6, A7, c5, c6, c7, lc, es, rs, rfl, rfl, rfl, HLC, HF, hrk, HEL, hs⟩ := hrel
    have HS := Lib.hid hs
    clear hs
    by_cases hlt : k < n
    · obtain ⟨b, off, rfl, hb, hc⟩ := HR.out.at_ Op.len (by omega)
      obtain ⟨o, ho⟩ : ∃ o, ops[k]? = some o := ⟨_, List.getElem?_eq_getElem (by rw [HL.out]; exact hlt)⟩
      obtain ⟨q0, q1, q2, q3⟩ := Op.facts hb HS.out.below hc ho
      have i0 : (0 : Int) ≤ (k : Int) := by omega
      have i1 : (k : Int) < (n : Int) := by omega
      have HSx : Hid (Sep w (wr.alloc (.cells #[.int .i64 o.kind, .int .i64 o.block, .int .i64 o.page, .int .i64 o.data] 24)) [.row 31 6 (.slice A5 8 c5) 8 (lc.flatMap B.cells), .row 25 1 (.slice A6 k c6) k (es.flatMap icell), .row 3 1 (.slice A7 rs.length c7) rs.length (rs.flatMap icell), .cells wr.heap.size 24 o.cells]) := Lib.hid (HS.out.new 24 o.cells)
      have HW : Hid ((∃ out m e, Way lc o out m e ∧ Rt lc ∧ e ≠ 0 ∧ ∃ es' rs', Plays lc (ops.drop (k + 1)) es' rs' lf ∧ ES = (es ++ [e]) ++ es' ∧ RS = rs ++ rs') ∨
          (∃ out m, Way lc o out m 0 ∧ Rt lc ∧ (o.kind == 3) = false ∧ ∃ es' rs', Plays out (ops.drop (k + 1)) es' rs' lf ∧ ES = (es ++ [0]) ++ es' ∧ RS = rs ++ rs') ∨
          (∃ out m, Way lc o out m 0 ∧ Rt lc ∧ (o.kind == 3) = true ∧ ∃ es' rs', Plays out (ops.drop (k + 1)) es' rs' lf ∧ ES = (es ++ [0]) ++ es' ∧ RS = (rs ++ [m]) ++ rs')) := Lib.hid (by
        obtain ⟨es', rs', h1, h2, h3⟩ := HF.out
        rw [drop_at ho] at h1
        cases h1 with
        | no hw hl he hs => exact .inl ⟨_, _, _, hw, hl, he, _, _, hs, by rw [h2]; simp, h3⟩
        | yes hw hl hk hs => exact .inr (.inl ⟨_, _, hw, hl, hk, _, _, hs, by rw [h2]; simp, h3⟩)
        | read hw hl hk hs => exact .inr (.inr ⟨_, _, hw, hl, hk, _, _, hs, by rw [h2]; simp, by rw [h3]; simp⟩))
      clear hc ho HF
      go_upto_region 7 with (fail)
      clear HS q0 q1 q2 q3
      generalize wr.alloc (.cells #[.int .i64 o.kind, .int .i64 o.block, .int .i64 o.page, .int .i64 o.data] 24) = wo at HSx ⊢
      generalize wr.heap.size = gx at HSx ⊢
      have p0 := HSx.out.cell 3 rfl (k := 0) rfl
      have p1 := HSx.out.cell 3 rfl (k := 1) rfl
      have p2 := HSx.out.cell 3 rfl (k := 2) rfl
      have p3 := HSx.out.cell 3 rfl (k := 3) rfl
      rcases HW.out with ⟨out, m, e, hw, hrt, he, hN⟩ | ⟨out, m, hw, hrt, hkd, hN⟩ | ⟨out, m, hw, hrt, hkd, hN⟩
      · have HN := Lib.hid hN
        have cS := Lib.hid (dstep_no A5 c5 lc out o m e wo (HSx.out.rd 0 rfl) hrt hw he)
        have he1 : (e != 0) = true := by simpa using he
        have he2 : (e == 0) = false := by simpa using he
        have HEL' : Hid ((es ++ [e]).length = k + 1) := Lib.hid (by rw [List.length_append, HEL.out]; rfl)
        clear hw hrt hN HW he
        go_wp2_with fail
        refine cS.out.mono ?_; rintro en w1 ⟨A, c, hc', rfl, K⟩
        have HS1 := Lib.hid ((HSx.out.join K).pick [0, 1, 2, 3] (by decide) (by simp))
        clear K HSx p0 p1 p2 p3 cS
        have f0 := HS1.out.cell 3 rfl (k := 0) rfl
        have hnew := Lib.hid (Rd.of_own (own_new w1 25 #[.int .i64 e] 1 1 rfl (by simp [maxLen]) (Nat.le_refl _)))
        go_wp2_with (at_builtin; refine wpList_append_sep (HS1.out.alloc _) 1 rfl (.tmp 41) (.tmp 43) 36 rfl 25 ei (.int .i64 0) 1 8 Try.underlying36 hei ez0 ez1 ez2 rfl (by omega) _ k _ rfl rfl _ _ 1 1 _ rfl hnew.out (by simp [Value.oneCell']) (by simp only [maxLen]; omega) (by omega) ?_; intro A8 c8 w8 hc8 hs8 H8'; have f8 := H8'.cell 3 rfl (k := 0) rfl; have H8 := Lib.hid H8'; clear H8')
        go_roundg (n - (k + 1))
        case measure => omega
        case rel => exact ⟨k + 1, by omega, rfl, by go_num, A5, A8, A7, c5, c8, c7, lc, es ++ [e], rs, rfl, rfl, rfl, HLC, HN, by omega, HEL', by rw [List.flatMap_append]; exact H8.out.pick [0, 1, 2] (by decide) (by simp [pickL])⟩
      · have HN := Lib.hid hN
        have cS := Lib.hid (dstep_yes A5 c5 lc out o m wo (HSx.out.rd 0 rfl) hrt hw)
        have HEL' : Hid ((es ++ [0]).length = k + 1) := Lib.hid (by rw [List.length_append, HEL.out]; rfl)
        have HLO : Hid (out.length = 8) := Lib.hid (way_len hrt hw)
        clear hw hrt hN HW
        go_wp2_with fail
        refine cS.out.mono ?_; intro en w1 hst; obtain ⟨A, c, hc', rfl, K⟩ := hst.eight HLO.out; clear hst
        have HS1 := Lib.hid ((HSx.out.join K).pick [4, 1, 2, 3] (by decide) (by simp))
        clear K HSx p0 p1 p2 p3 cS
        have f0 := HS1.out.cell 3 rfl (k := 0) rfl
        have hnew := Lib.hid (Rd.of_own (own_new w1 25 #[.int .i64 0] 1 1 rfl (by simp [maxLen]) (Nat.le_refl _)))
        go_wp2_with (at_builtin; refine wpList_append_sep (HS1.out.alloc _) 1 rfl (.tmp 41) (.tmp 43) 36 rfl 25 ei (.int .i64 0) 1 8 Try.underlying36 hei ez0 ez1 ez2 rfl (by omega) _ k _ rfl rfl _ _ 1 1 _ rfl hnew.out (by simp [Value.oneCell']) (by simp only [maxLen]; omega) (by omega) ?_; intro A8 c8 w8 hc8 hs8 H8'; have f8 := H8'.cell 3 rfl (k := 0) rfl; have H8 := Lib.hid H8'; clear H8')
        go_roundg (n - (k + 1))
        case measure => omega
        case rel => exact ⟨k + 1, by omega, rfl, by go_num, A, A8, A7, c, c8, c7, out, es ++ [0], rs, rfl, rfl, rfl, HLO, HN, by omega, HEL', by rw [List.flatMap_append]; exact H8.out.pick [0, 1, 2] (by decide) (by simp [pickL])⟩
      · have HN := Lib.hid hN
        have cS := Lib.hid (dstep_yes A5 c5 lc out o m wo (HSx.out.rd 0 rfl) hrt hw)
        have HEL' : Hid ((es ++ [0]).length = k + 1) := Lib.hid (by rw [List.length_append, HEL.out]; rfl)
        have HLO : Hid (out.length = 8) := Lib.hid (way_len hrt hw)
        clear hw hrt hN HW
        go_wp2_with fail
        refine cS.out.mono ?_; intro en w1 hst; obtain ⟨A, c, hc', rfl, K⟩ := hst.eight HLO.out; clear hst
        have HS1 := Lib.hid ((HSx.out.join K).pick [4, 1, 2, 3] (by decide) (by simp))
        clear K HSx p0 p1 p2 p3 cS
        have f0 := HS1.out.cell 3 rfl (k := 0) rfl
        have hnew := Lib.hid (Rd.of_own (own_new w1 3 #[.int .i64 m] 1 1 rfl (by simp [maxLen]) (Nat.le_refl _)))
        go_upto_region 12 with (at_builtin; refine wpList_append_sep (HS1.out.alloc _) 2 rfl (.tmp 37) (.tmp 39) 37 rfl 3 ii (.int .i64 0) 1 8 Try.underlying37 hii iz0 iz1 iz2 rfl (by omega) _ rs.length _ rfl rfl _ _ 1 1 _ rfl hnew.out (by simp [Value.oneCell']) (by simp only [maxLen]; omega) (by omega) ?_; intro A9 c9 w9 hc9 hs9 H9'; have H9 := Lib.hid H9'; clear H9')
        clear f0 hnew
        have hnew := Lib.hid (Rd.of_own (own_new w9 25 #[.int .i64 0] 1 1 rfl (by simp [maxLen]) (Nat.le_refl _)))
        go_wp2_with (at_builtin; refine wpList_append_sep (H9.out.alloc _) 1 rfl (.tmp 41) (.tmp 43) 36 rfl 25 ei (.int .i64 0) 1 8 Try.underlying36 hei ez0 ez1 ez2 rfl (by omega) _ k _ rfl rfl _ _ 1 1 _ rfl hnew.out (by simp [Value.oneCell']) (by simp only [maxLen]; omega) (by omega) ?_; intro A8 c8 w8 hc8 hs8 H8'; have H8 := Lib.hid H8'; clear H8')
        go_roundg (n - (k + 1))
        case measure => omega
        case rel => exact ⟨k + 1, by omega, rfl, by go_num, A, A8, A9, c, c8, c9, out, es ++ [0], rs ++ [m], rfl, rfl, by rw [List.length_append]; rfl, HLO, HN, by rw [List.length_append]; simp; omega, HEL', by rw [List.flatMap_append, List.flatMap_append, List.length_append]; exact H8.out.pick [0, 1, 2] (by decide) (by simp [pickL])⟩
    · obtain rfl : k = n := by omega
      obtain ⟨es', rs', h1, h2, h3⟩ := HF.out
      rw [List.drop_of_length_le (by rw [HL.out]; omega)] at h1
      cases h1
      simp only [List.append_nil] at h2 h3
      subst h2 h3
      have hel := HEL.out
      subst hel
      go_wp2
      refine bodyPost_ret (v := .tuple #[.slice A6 ES.length c6, .slice A7 RS.length c7, .slice A5 8 c5]) (by simp [results, Try.results16]) rfl ?_
      exact ⟨A6, c6, A7, c7, A5, c5, rfl, HS.out.pick [1, 2, 0] (by decide) (by simp)⟩
end Nd
end Go.Proofs.Ytmbkonhclniolaa
