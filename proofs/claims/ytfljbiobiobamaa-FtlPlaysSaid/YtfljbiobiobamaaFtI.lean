/-
  Walk of the reference's IPlay. Conditions: none beyond each theorem's own premises.
-/
import Derived.Test.YtfljbiobiobamaaFtW7
namespace Go.Proofs.Ytfljbiobiobamaa
open Go.RowKit
set_option linter.unusedVariables false
namespace Ft

abbrev mI (g n : Nat) (h : Int → Option Int) : It := .map Try.prog 3 (Value.int .i64) ienc g n h
def IRet (w : World) (n : Nat) (as_ : List A) (en : Ending) (w' : World) : Prop :=
  ∃ A1 c1, en = .returned (.tuple #[.slice A1 n c1, .int .i64 0]) ∧ Sep w w' [.row 46 2 (.slice A1 n c1) n (as_.flatMap A.cells)]

set_option maxRecDepth 100000 in
set_option maxHeartbeats 1600000 in
theorem iplay_big (Ad : Option Addr) (n c : Nat) (w : World) (hn : 400 < n) :
    Calls Try.prog 14 #[.slice Ad n c] w (fun en w' => en = .returned (.tuple #[.slice none 0 0, .int .i64 2]) ∧ Below w.heap.size w w') := by
  have i1 : (400 : Int) < (n : Int) := by omega
  clear hn
  go_enter Try.func14, Try.ntmps14
  go_wp2
  refine bodyPost_ret (v := .tuple #[.slice none 0 0, .int .i64 2]) (by simp [results, Try.results14]) rfl ?_
  exact ⟨rfl, Below.refl _ _⟩

set_option maxRecDepth 100000 in
set_option maxHeartbeats 12800000 in
theorem iplay_any (Ad : Option Addr) (n c : Nat) (ops : List O) (as_ : List A) (w : World) (hr : Rd w w.heap.size 3 Ad n (ops.flatMap O.cells)) (hl : ops.length = n) (hn : n ≤ 400) (hp : Plays mno ops as_)
    (hwf : ∀ o ∈ ops, (Lit.int .i64 o.n).wf = true) :
    Calls Try.prog 14 #[.slice Ad n c] w (IRet w n as_) := by
  obtain ⟨ti, hti, t0, t1, t2⟩ := info_parts ans_info
  have hmm := @run_makeMap Try.prog
  have HR := Lib.hid hr
  have HL := Lib.hid hl
  have HW := Lib.hid hwf
  have HF : Hid (∃ es', Plays mno (ops.drop 0) es' ∧ as_ = [] ++ es') := Lib.hid ⟨as_, hp, rfl⟩
  have i4 : ¬ (400 : Int) < (n : Int) := by omega
  have HS1 : Hid (Sep w (w.alloc (.map #[] 0)) [mI w.heap.size 0 mno, .row 46 2 (.slice none 0 0) 0 (([] : List A).flatMap A.cells)]) := Lib.hid (((Sep.nil_ w).newMap Try.prog 3 (Value.int .i64) ienc).nilRow 46 2 none)
  clear hr hl hp hwf
  go_enter Try.func14, Try.ntmps14
  go_wp2
  clear hmm
  generalize w.alloc (.map #[] 0) = wo at HS1 ⊢
  obtain ⟨gm, HG1⟩ : ∃ g, Hid (g = w.heap.size) := ⟨_, Lib.hid rfl⟩
  rw [← HG1.out] at HS1
  rw [← HG1.out]
  go_loopg [5, 17] n (fun q v5 i wr => ∃ (k : Nat) (A5 : Option Addr) (c5 nm : Nat) (has : Int → Option Int) (es : List A), k ≤ n ∧ q = n - k ∧ i = .int .i64 (k : Int) ∧ v5 = .slice A5 k c5 ∧ es.length = k ∧ nm ≤ k ∧
    Hid (∃ es', Plays has (ops.drop k) es' ∧ as_ = es ++ es') ∧ Sep w wr [mI gm nm has, .row 46 2 (.slice A5 k c5) k (es.flatMap A.cells)])
  case atStart => exact ⟨0, none, 0, 0, mno, [], Nat.zero_le _, rfl, rfl, rfl, rfl, Nat.le_refl _, HF, HS1.out⟩
  case round =>
    clear HF HS1 wo
    obtain ⟨k, A5, c5, nm, has, es, hk, rfl, rfl, rfl, hel, hnm, HF, hs⟩ := hrel
    have HS := Lib.hid hs
    have HEL := Lib.hid hel
    have HNM := Lib.hid hnm
    clear hs hel hnm
    by_cases hlt : k < n
    · obtain ⟨b, off, rfl, hb, hc⟩ := HR.out.at_ O.len (by omega)
      obtain ⟨o, ho⟩ : ∃ o, ops[k]? = some o := ⟨_, List.getElem?_eq_getElem (by rw [HL.out]; exact hlt)⟩
      have hbel := HS.out.below
      have q0 : wr.cell? ⟨b, off + k * 3, none⟩ = some (.int .i64 o.kind) := (hbel.cell hb).trans (hc k 0 o _ ho rfl)
      have q1 : wr.cell? ⟨b, off + k * 3 + 1, none⟩ = some (.int .i64 o.n) := (hbel.cell hb).trans (hc k 1 o _ ho rfl)
      have q2 : wr.cell? ⟨b, off + k * 3 + 2, none⟩ = some (.int .i64 o.data) := (hbel.cell hb).trans (hc k 2 o _ ho rfl)
      have i0 : (0 : Int) ≤ (k : Int) := by omega
      have i1 : (k : Int) < (n : Int) := by omega
      have HWF : Hid ((Lit.int .i64 o.n).wf = true) := Lib.hid (HW.out o (List.mem_of_getElem? ho))
      obtain ⟨e, d, has', es1, HWAY, HP2, HAS⟩ : ∃ e d has' es1, Hid (Way has o e d has') ∧ Hid (Plays has' (ops.drop (k + 1)) es1) ∧ Hid (as_ = (es ++ [(⟨e, d⟩ : A)]) ++ es1) := by
        obtain ⟨es', h1, h2⟩ := HF.out
        rw [drop_at ho] at h1
        cases h1 with
        | cons hw hp => exact ⟨_, _, _, _, Lib.hid hw, Lib.hid hp, Lib.hid (by rw [h2]; simp)⟩
      have HEL2 : Hid ((es ++ [(⟨e, d⟩ : A)]).length = k + 1) := Lib.hid (by rw [List.length_append, HEL.out]; rfl)
      clear hc ho HF hbel
      obtain ⟨ok, on, od⟩ := o
      simp only at q0 q1 q2 HWF
      go_upto_region 9 with (fail)
      have HS2 : Hid (Sep w ((wr.alloc (.cells #[.int .i64 ok, .int .i64 on, .int .i64 od] 93)).alloc (.cells #[.int .i64 0, .int .i64 0] 46)) [mI gm nm has, .row 46 2 (.slice A5 k c5) k (es.flatMap A.cells), .cells wr.heap.size 93 [.int .i64 ok, .int .i64 on, .int .i64 od], .cells (wr.heap.size + 1) 46 [.int .i64 0, .int .i64 0]]) := Lib.hid (by
        have := (HS.out.new 93 [.int .i64 ok, .int .i64 on, .int .i64 od]).new 46 [.int .i64 0, .int .i64 0]
        simpa using this)
      clear HS q0 q1 q2
      generalize (wr.alloc (.cells #[.int .i64 ok, .int .i64 on, .int .i64 od] 93)).alloc (.cells #[.int .i64 0, .int .i64 0] 46) = wx at HS2 ⊢
      generalize wr.heap.size + 1 = gy at HS2 ⊢
      generalize wr.heap.size = gx at HS2 ⊢
      obtain ⟨z0, th, hth, HHAS⟩ : ∃ (z0 : Int) (th : Bool), ((has on).elim (.int .i64 0) ienc = .int .i64 z0 ∧ (has on).isSome = th) ∧ Hid (has on = if th then some z0 else none) := by
        cases h : has on with
        | none => exact ⟨0, false, ⟨rfl, rfl⟩, Lib.hid rfl⟩
        | some z => exact ⟨z, true, ⟨rfl, rfl⟩, Lib.hid rfl⟩
      have l1 : (Instr.lookup 67 (.map (some gm)) (.int .i64 on) true).run Try.prog wx = .ok (.tuple #[.int .i64 z0, .bool th]) wx := by
        have := HS2.out.look2 0 rfl kint HWF.out Try.underlying67 (iz wx)
        rw [hth.1, hth.2] at this
        exact this
      have o0 := HS2.out.cell 2 rfl (k := 0) rfl
      have o1 := HS2.out.cell 2 rfl (k := 1) rfl
      have o2 := HS2.out.cell 2 rfl (k := 2) rfl
      have u0 := HS2.out.froz 3 rfl (k := 0)
      have u1 := HS2.out.froz 3 rfl (k := 1)
      have a0 := HS2.out.cell 3 rfl (k := 0) rfl
      have a1 := HS2.out.cell 3 rfl (k := 1) rfl
      have hw := HWAY.out
      clear HWAY hth
      cases hw with
      | kind h =>
        have k1 : (ok != 1) = true := by simp; omega
        have k2 : (ok != 2) = true := by simp; omega
        have k3 : (ok != 3) = true := by simp; omega
        have H9 := Lib.hid (HS2.out.set 3 rfl (k := 0) (.int .i64 5))
        clear h
        have q0 := H9.out.cell 3 rfl (k := 0) rfl
        have q1 := H9.out.cell 3 rfl (k := 1) rfl
        have hnew : ∀ (W' : World) (gg : Nat), gg = W'.heap.size → Rd (W'.alloc (.cells #[.int .i64 5, .int .i64 0] 46)) (W'.alloc (.cells #[.int .i64 5, .int .i64 0] 46)).heap.size 2 (some ⟨gg, 0, none⟩) 1 [.int .i64 5, .int .i64 0] := fun W' gg e => by rw [e]; exact Rd.of_own (own_new W' 46 #[.int .i64 5, .int .i64 0] 2 1 rfl (by simp [maxLen]) (Nat.le_refl _))
        have HNEW := Lib.hid hnew
        clear hnew
        go_wp2_with (at_builtin; refine wpList_append_sep (H9.out.alloc _) 1 rfl (.tmp 76) (.tmp 78) 39 rfl 46 ti (.agg #[.int .i64 0, .int .i64 0]) 2 16 Try.underlying39 hti t0 t1 t2 rfl (by omega) _ k _ rfl rfl _ _ 1 1 _ rfl (HNEW.out _ _ (by simp)) (by simp [Value.oneCell']) (by simp only [maxLen]; omega) (by omega) ?_; intro A6 c6 w6 hc6 hs6 H6'; have H6 := Lib.hid H6'; clear H6')
        go_roundg (n - (k + 1))
        case measure => omega
        case rel =>
          refine ⟨k + 1, A6, c6, _, _, es ++ [(⟨5, 0⟩ : A)], by omega, rfl, by go_num, rfl, HEL2.out, Nat.le_trans HNM.out (Nat.le_succ _), Lib.hid ⟨es1, HP2.out, HAS.out⟩, ?_⟩
          rw [List.flatMap_append]
          exact H6.out.pick [0, 1] (by decide) (by simp)
      | range h0 h1 h =>
        have H9 := Lib.hid (HS2.out.set 3 rfl (k := 0) (.int .i64 2))
        have hkk : ok = 1 ∨ ok = 2 ∨ ok = 3 := by omega
        clear h0 h1
        by_cases h0 : on < 0
        · clear h
          rcases hkk with rfl | rfl | rfl
          · have q0 := H9.out.cell 3 rfl (k := 0) rfl
            have q1 := H9.out.cell 3 rfl (k := 1) rfl
            have hnew : ∀ (W' : World) (gg : Nat), gg = W'.heap.size → Rd (W'.alloc (.cells #[.int .i64 2, .int .i64 0] 46)) (W'.alloc (.cells #[.int .i64 2, .int .i64 0] 46)).heap.size 2 (some ⟨gg, 0, none⟩) 1 [.int .i64 2, .int .i64 0] := fun W' gg e => by rw [e]; exact Rd.of_own (own_new W' 46 #[.int .i64 2, .int .i64 0] 2 1 rfl (by simp [maxLen]) (Nat.le_refl _))
            have HNEW := Lib.hid hnew
            clear hnew
            go_wp2_with (at_builtin; refine wpList_append_sep (H9.out.alloc _) 1 rfl (.tmp 76) (.tmp 78) 39 rfl 46 ti (.agg #[.int .i64 0, .int .i64 0]) 2 16 Try.underlying39 hti t0 t1 t2 rfl (by omega) _ k _ rfl rfl _ _ 1 1 _ rfl (HNEW.out _ _ (by simp)) (by simp [Value.oneCell']) (by simp only [maxLen]; omega) (by omega) ?_; intro A6 c6 w6 hc6 hs6 H6'; have H6 := Lib.hid H6'; clear H6')
            go_roundg (n - (k + 1))
            case measure => omega
            case rel =>
              refine ⟨k + 1, A6, c6, _, _, es ++ [(⟨2, 0⟩ : A)], by omega, rfl, by go_num, rfl, HEL2.out, Nat.le_trans HNM.out (Nat.le_succ _), Lib.hid ⟨es1, HP2.out, HAS.out⟩, ?_⟩
              rw [List.flatMap_append]
              exact H6.out.pick [0, 1] (by decide) (by simp)
          · have q0 := H9.out.cell 3 rfl (k := 0) rfl
            have q1 := H9.out.cell 3 rfl (k := 1) rfl
            have hnew : ∀ (W' : World) (gg : Nat), gg = W'.heap.size → Rd (W'.alloc (.cells #[.int .i64 2, .int .i64 0] 46)) (W'.alloc (.cells #[.int .i64 2, .int .i64 0] 46)).heap.size 2 (some ⟨gg, 0, none⟩) 1 [.int .i64 2, .int .i64 0] := fun W' gg e => by rw [e]; exact Rd.of_own (own_new W' 46 #[.int .i64 2, .int .i64 0] 2 1 rfl (by simp [maxLen]) (Nat.le_refl _))
            have HNEW := Lib.hid hnew
            clear hnew
            go_wp2_with (at_builtin; refine wpList_append_sep (H9.out.alloc _) 1 rfl (.tmp 76) (.tmp 78) 39 rfl 46 ti (.agg #[.int .i64 0, .int .i64 0]) 2 16 Try.underlying39 hti t0 t1 t2 rfl (by omega) _ k _ rfl rfl _ _ 1 1 _ rfl (HNEW.out _ _ (by simp)) (by simp [Value.oneCell']) (by simp only [maxLen]; omega) (by omega) ?_; intro A6 c6 w6 hc6 hs6 H6'; have H6 := Lib.hid H6'; clear H6')
            go_roundg (n - (k + 1))
            case measure => omega
            case rel =>
              refine ⟨k + 1, A6, c6, _, _, es ++ [(⟨2, 0⟩ : A)], by omega, rfl, by go_num, rfl, HEL2.out, Nat.le_trans HNM.out (Nat.le_succ _), Lib.hid ⟨es1, HP2.out, HAS.out⟩, ?_⟩
              rw [List.flatMap_append]
              exact H6.out.pick [0, 1] (by decide) (by simp)
          · have q0 := H9.out.cell 3 rfl (k := 0) rfl
            have q1 := H9.out.cell 3 rfl (k := 1) rfl
            have hnew : ∀ (W' : World) (gg : Nat), gg = W'.heap.size → Rd (W'.alloc (.cells #[.int .i64 2, .int .i64 0] 46)) (W'.alloc (.cells #[.int .i64 2, .int .i64 0] 46)).heap.size 2 (some ⟨gg, 0, none⟩) 1 [.int .i64 2, .int .i64 0] := fun W' gg e => by rw [e]; exact Rd.of_own (own_new W' 46 #[.int .i64 2, .int .i64 0] 2 1 rfl (by simp [maxLen]) (Nat.le_refl _))
            have HNEW := Lib.hid hnew
            clear hnew
            go_wp2_with (at_builtin; refine wpList_append_sep (H9.out.alloc _) 1 rfl (.tmp 76) (.tmp 78) 39 rfl 46 ti (.agg #[.int .i64 0, .int .i64 0]) 2 16 Try.underlying39 hti t0 t1 t2 rfl (by omega) _ k _ rfl rfl _ _ 1 1 _ rfl (HNEW.out _ _ (by simp)) (by simp [Value.oneCell']) (by simp only [maxLen]; omega) (by omega) ?_; intro A6 c6 w6 hc6 hs6 H6'; have H6 := Lib.hid H6'; clear H6')
            go_roundg (n - (k + 1))
            case measure => omega
            case rel =>
              refine ⟨k + 1, A6, c6, _, _, es ++ [(⟨2, 0⟩ : A)], by omega, rfl, by go_num, rfl, HEL2.out, Nat.le_trans HNM.out (Nat.le_succ _), Lib.hid ⟨es1, HP2.out, HAS.out⟩, ?_⟩
              rw [List.flatMap_append]
              exact H6.out.pick [0, 1] (by decide) (by simp)
        · have h3 : 15 < on := by omega
          clear h
          rcases hkk with rfl | rfl | rfl
          · have q0 := H9.out.cell 3 rfl (k := 0) rfl
            have q1 := H9.out.cell 3 rfl (k := 1) rfl
            have hnew : ∀ (W' : World) (gg : Nat), gg = W'.heap.size → Rd (W'.alloc (.cells #[.int .i64 2, .int .i64 0] 46)) (W'.alloc (.cells #[.int .i64 2, .int .i64 0] 46)).heap.size 2 (some ⟨gg, 0, none⟩) 1 [.int .i64 2, .int .i64 0] := fun W' gg e => by rw [e]; exact Rd.of_own (own_new W' 46 #[.int .i64 2, .int .i64 0] 2 1 rfl (by simp [maxLen]) (Nat.le_refl _))
            have HNEW := Lib.hid hnew
            clear hnew
            go_wp2_with (at_builtin; refine wpList_append_sep (H9.out.alloc _) 1 rfl (.tmp 76) (.tmp 78) 39 rfl 46 ti (.agg #[.int .i64 0, .int .i64 0]) 2 16 Try.underlying39 hti t0 t1 t2 rfl (by omega) _ k _ rfl rfl _ _ 1 1 _ rfl (HNEW.out _ _ (by simp)) (by simp [Value.oneCell']) (by simp only [maxLen]; omega) (by omega) ?_; intro A6 c6 w6 hc6 hs6 H6'; have H6 := Lib.hid H6'; clear H6')
            go_roundg (n - (k + 1))
            case measure => omega
            case rel =>
              refine ⟨k + 1, A6, c6, _, _, es ++ [(⟨2, 0⟩ : A)], by omega, rfl, by go_num, rfl, HEL2.out, Nat.le_trans HNM.out (Nat.le_succ _), Lib.hid ⟨es1, HP2.out, HAS.out⟩, ?_⟩
              rw [List.flatMap_append]
              exact H6.out.pick [0, 1] (by decide) (by simp)
          · have q0 := H9.out.cell 3 rfl (k := 0) rfl
            have q1 := H9.out.cell 3 rfl (k := 1) rfl
            have hnew : ∀ (W' : World) (gg : Nat), gg = W'.heap.size → Rd (W'.alloc (.cells #[.int .i64 2, .int .i64 0] 46)) (W'.alloc (.cells #[.int .i64 2, .int .i64 0] 46)).heap.size 2 (some ⟨gg, 0, none⟩) 1 [.int .i64 2, .int .i64 0] := fun W' gg e => by rw [e]; exact Rd.of_own (own_new W' 46 #[.int .i64 2, .int .i64 0] 2 1 rfl (by simp [maxLen]) (Nat.le_refl _))
            have HNEW := Lib.hid hnew
            clear hnew
            go_wp2_with (at_builtin; refine wpList_append_sep (H9.out.alloc _) 1 rfl (.tmp 76) (.tmp 78) 39 rfl 46 ti (.agg #[.int .i64 0, .int .i64 0]) 2 16 Try.underlying39 hti t0 t1 t2 rfl (by omega) _ k _ rfl rfl _ _ 1 1 _ rfl (HNEW.out _ _ (by simp)) (by simp [Value.oneCell']) (by simp only [maxLen]; omega) (by omega) ?_; intro A6 c6 w6 hc6 hs6 H6'; have H6 := Lib.hid H6'; clear H6')
            go_roundg (n - (k + 1))
            case measure => omega
            case rel =>
              refine ⟨k + 1, A6, c6, _, _, es ++ [(⟨2, 0⟩ : A)], by omega, rfl, by go_num, rfl, HEL2.out, Nat.le_trans HNM.out (Nat.le_succ _), Lib.hid ⟨es1, HP2.out, HAS.out⟩, ?_⟩
              rw [List.flatMap_append]
              exact H6.out.pick [0, 1] (by decide) (by simp)
          · have q0 := H9.out.cell 3 rfl (k := 0) rfl
            have q1 := H9.out.cell 3 rfl (k := 1) rfl
            have hnew : ∀ (W' : World) (gg : Nat), gg = W'.heap.size → Rd (W'.alloc (.cells #[.int .i64 2, .int .i64 0] 46)) (W'.alloc (.cells #[.int .i64 2, .int .i64 0] 46)).heap.size 2 (some ⟨gg, 0, none⟩) 1 [.int .i64 2, .int .i64 0] := fun W' gg e => by rw [e]; exact Rd.of_own (own_new W' 46 #[.int .i64 2, .int .i64 0] 2 1 rfl (by simp [maxLen]) (Nat.le_refl _))
            have HNEW := Lib.hid hnew
            clear hnew
            go_wp2_with (at_builtin; refine wpList_append_sep (H9.out.alloc _) 1 rfl (.tmp 76) (.tmp 78) 39 rfl 46 ti (.agg #[.int .i64 0, .int .i64 0]) 2 16 Try.underlying39 hti t0 t1 t2 rfl (by omega) _ k _ rfl rfl _ _ 1 1 _ rfl (HNEW.out _ _ (by simp)) (by simp [Value.oneCell']) (by simp only [maxLen]; omega) (by omega) ?_; intro A6 c6 w6 hc6 hs6 H6'; have H6 := Lib.hid H6'; clear H6')
            go_roundg (n - (k + 1))
            case measure => omega
            case rel =>
              refine ⟨k + 1, A6, c6, _, _, es ++ [(⟨2, 0⟩ : A)], by omega, rfl, by go_num, rfl, HEL2.out, Nat.le_trans HNM.out (Nat.le_succ _), Lib.hid ⟨es1, HP2.out, HAS.out⟩, ?_⟩
              rw [List.flatMap_append]
              exact H6.out.pick [0, 1] (by decide) (by simp)
      | @write _ m hm =>
        have k0 : ¬ (m : Int) < 0 := by omega
        have k1 : ¬ 15 < (m : Int) := by omega
        obtain ⟨w4, hrun, hsz, H4⟩ := HS2.out.store 0 rfl kint HWF.out Try.underlying67 (by have := HNM.out; simp only [maxLen]; omega) od
        simp only [ienc] at hrun
        have H9 := Lib.hid H4
        have HNN : Hid ((if (has (m : Int)).isSome then nm else nm + 1) ≤ k + 1) := Lib.hid (by have := HNM.out; split <;> omega)
        clear hsz H4 hm
        have q0 := H9.out.cell 3 rfl (k := 0) rfl
        have q1 := H9.out.cell 3 rfl (k := 1) rfl
        have hnew : ∀ (W' : World) (gg : Nat), gg = W'.heap.size → Rd (W'.alloc (.cells #[.int .i64 0, .int .i64 0] 46)) (W'.alloc (.cells #[.int .i64 0, .int .i64 0] 46)).heap.size 2 (some ⟨gg, 0, none⟩) 1 [.int .i64 0, .int .i64 0] := fun W' gg e => by rw [e]; exact Rd.of_own (own_new W' 46 #[.int .i64 0, .int .i64 0] 2 1 rfl (by simp [maxLen]) (Nat.le_refl _))
        have HNEW := Lib.hid hnew
        clear hnew
        go_wp2_with (at_builtin; refine wpList_append_sep (H9.out.alloc _) 1 rfl (.tmp 76) (.tmp 78) 39 rfl 46 ti (.agg #[.int .i64 0, .int .i64 0]) 2 16 Try.underlying39 hti t0 t1 t2 rfl (by omega) _ k _ rfl rfl _ _ 1 1 _ rfl (HNEW.out _ _ (by simp)) (by simp [Value.oneCell']) (by simp only [maxLen]; omega) (by omega) ?_; intro A6 c6 w6 hc6 hs6 H6'; have H6 := Lib.hid H6'; clear H6')
        go_roundg (n - (k + 1))
        case measure => omega
        case rel =>
          refine ⟨k + 1, A6, c6, _, _, es ++ [(⟨0, 0⟩ : A)], by omega, rfl, by go_num, rfl, HEL2.out, HNN.out, Lib.hid ⟨es1, HP2.out, HAS.out⟩, ?_⟩
          rw [List.flatMap_append]
          exact H6.out.pick [0, 1] (by decide) (by simp)
      | @none _ m _ hm hk2 hh =>
        obtain rfl : th = false := by
          have h9 := HHAS.out
          rw [hh] at h9
          cases th with
          | false => rfl
          | true => cases h9
        have k0 : ¬ (m : Int) < 0 := by omega
        have k1 : ¬ 15 < (m : Int) := by omega
        have H9 := Lib.hid (HS2.out.set 3 rfl (k := 0) (.int .i64 3))
        clear hm hh
        rcases hk2 with rfl | rfl
        · have q0 := H9.out.cell 3 rfl (k := 0) rfl
          have q1 := H9.out.cell 3 rfl (k := 1) rfl
          have hnew : ∀ (W' : World) (gg : Nat), gg = W'.heap.size → Rd (W'.alloc (.cells #[.int .i64 3, .int .i64 0] 46)) (W'.alloc (.cells #[.int .i64 3, .int .i64 0] 46)).heap.size 2 (some ⟨gg, 0, none⟩) 1 [.int .i64 3, .int .i64 0] := fun W' gg e => by rw [e]; exact Rd.of_own (own_new W' 46 #[.int .i64 3, .int .i64 0] 2 1 rfl (by simp [maxLen]) (Nat.le_refl _))
          have HNEW := Lib.hid hnew
          clear hnew
          go_wp2_with (at_builtin; refine wpList_append_sep (H9.out.alloc _) 1 rfl (.tmp 76) (.tmp 78) 39 rfl 46 ti (.agg #[.int .i64 0, .int .i64 0]) 2 16 Try.underlying39 hti t0 t1 t2 rfl (by omega) _ k _ rfl rfl _ _ 1 1 _ rfl (HNEW.out _ _ (by simp)) (by simp [Value.oneCell']) (by simp only [maxLen]; omega) (by omega) ?_; intro A6 c6 w6 hc6 hs6 H6'; have H6 := Lib.hid H6'; clear H6')
          go_roundg (n - (k + 1))
          case measure => omega
          case rel =>
            refine ⟨k + 1, A6, c6, _, _, es ++ [(⟨3, 0⟩ : A)], by omega, rfl, by go_num, rfl, HEL2.out, Nat.le_trans HNM.out (Nat.le_succ _), Lib.hid ⟨es1, HP2.out, HAS.out⟩, ?_⟩
            rw [List.flatMap_append]
            exact H6.out.pick [0, 1] (by decide) (by simp)
        · have q0 := H9.out.cell 3 rfl (k := 0) rfl
          have q1 := H9.out.cell 3 rfl (k := 1) rfl
          have hnew : ∀ (W' : World) (gg : Nat), gg = W'.heap.size → Rd (W'.alloc (.cells #[.int .i64 3, .int .i64 0] 46)) (W'.alloc (.cells #[.int .i64 3, .int .i64 0] 46)).heap.size 2 (some ⟨gg, 0, none⟩) 1 [.int .i64 3, .int .i64 0] := fun W' gg e => by rw [e]; exact Rd.of_own (own_new W' 46 #[.int .i64 3, .int .i64 0] 2 1 rfl (by simp [maxLen]) (Nat.le_refl _))
          have HNEW := Lib.hid hnew
          clear hnew
          go_wp2_with (at_builtin; refine wpList_append_sep (H9.out.alloc _) 1 rfl (.tmp 76) (.tmp 78) 39 rfl 46 ti (.agg #[.int .i64 0, .int .i64 0]) 2 16 Try.underlying39 hti t0 t1 t2 rfl (by omega) _ k _ rfl rfl _ _ 1 1 _ rfl (HNEW.out _ _ (by simp)) (by simp [Value.oneCell']) (by simp only [maxLen]; omega) (by omega) ?_; intro A6 c6 w6 hc6 hs6 H6'; have H6 := Lib.hid H6'; clear H6')
          go_roundg (n - (k + 1))
          case measure => omega
          case rel =>
            refine ⟨k + 1, A6, c6, _, _, es ++ [(⟨3, 0⟩ : A)], by omega, rfl, by go_num, rfl, HEL2.out, Nat.le_trans HNM.out (Nat.le_succ _), Lib.hid ⟨es1, HP2.out, HAS.out⟩, ?_⟩
            rw [List.flatMap_append]
            exact H6.out.pick [0, 1] (by decide) (by simp)
      | @read _ m z hm hh =>
        have h9 := HHAS.out
        rw [hh] at h9
        cases th with
        | false => cases h9
        | true =>
          simp only [if_true, Option.some.injEq] at h9
          subst h9
          have k0 : ¬ (m : Int) < 0 := by omega
          have k1 : ¬ 15 < (m : Int) := by omega
          have H9 := Lib.hid (HS2.out.set 3 rfl (k := 1) (.int .i64 d))
          clear hm hh
          have q0 := H9.out.cell 3 rfl (k := 0) rfl
          have q1 := H9.out.cell 3 rfl (k := 1) rfl
          have hnew : ∀ (W' : World) (gg : Nat), gg = W'.heap.size → Rd (W'.alloc (.cells #[.int .i64 0, .int .i64 d] 46)) (W'.alloc (.cells #[.int .i64 0, .int .i64 d] 46)).heap.size 2 (some ⟨gg, 0, none⟩) 1 [.int .i64 0, .int .i64 d] := fun W' gg e => by rw [e]; exact Rd.of_own (own_new W' 46 #[.int .i64 0, .int .i64 d] 2 1 rfl (by simp [maxLen]) (Nat.le_refl _))
          have HNEW := Lib.hid hnew
          clear hnew
          go_wp2_with (at_builtin; refine wpList_append_sep (H9.out.alloc _) 1 rfl (.tmp 76) (.tmp 78) 39 rfl 46 ti (.agg #[.int .i64 0, .int .i64 0]) 2 16 Try.underlying39 hti t0 t1 t2 rfl (by omega) _ k _ rfl rfl _ _ 1 1 _ rfl (HNEW.out _ _ (by simp)) (by simp [Value.oneCell']) (by simp only [maxLen]; omega) (by omega) ?_; intro A6 c6 w6 hc6 hs6 H6'; have H6 := Lib.hid H6'; clear H6')
          go_roundg (n - (k + 1))
          case measure => omega
          case rel =>
            refine ⟨k + 1, A6, c6, _, _, es ++ [(⟨0, d⟩ : A)], by omega, rfl, by go_num, rfl, HEL2.out, Nat.le_trans HNM.out (Nat.le_succ _), Lib.hid ⟨es1, HP2.out, HAS.out⟩, ?_⟩
            rw [List.flatMap_append]
            exact H6.out.pick [0, 1] (by decide) (by simp)
      | @trim _ m z hm hh =>
        have h9 := HHAS.out
        rw [hh] at h9
        cases th with
        | false => cases h9
        | true =>
          have k0 : ¬ (m : Int) < 0 := by omega
          have k1 : ¬ 15 < (m : Int) := by omega
          obtain ⟨w4, hrun, hsz, H4⟩ := HS2.out.drop 0 rfl kint HWF.out Try.underlying67
          have H9 := Lib.hid H4
          have HNN : Hid ((if (has (m : Int)).isSome then nm - 1 else nm) ≤ k + 1) := Lib.hid (by have := HNM.out; split <;> omega)
          clear hsz H4 hm hh h9
          have q0 := H9.out.cell 3 rfl (k := 0) rfl
          have q1 := H9.out.cell 3 rfl (k := 1) rfl
          have hnew : ∀ (W' : World) (gg : Nat), gg = W'.heap.size → Rd (W'.alloc (.cells #[.int .i64 0, .int .i64 0] 46)) (W'.alloc (.cells #[.int .i64 0, .int .i64 0] 46)).heap.size 2 (some ⟨gg, 0, none⟩) 1 [.int .i64 0, .int .i64 0] := fun W' gg e => by rw [e]; exact Rd.of_own (own_new W' 46 #[.int .i64 0, .int .i64 0] 2 1 rfl (by simp [maxLen]) (Nat.le_refl _))
          have HNEW := Lib.hid hnew
          clear hnew
          go_wp2_with (at_builtin; refine wpList_append_sep (H9.out.alloc _) 1 rfl (.tmp 76) (.tmp 78) 39 rfl 46 ti (.agg #[.int .i64 0, .int .i64 0]) 2 16 Try.underlying39 hti t0 t1 t2 rfl (by omega) _ k _ rfl rfl _ _ 1 1 _ rfl (HNEW.out _ _ (by simp)) (by simp [Value.oneCell']) (by simp only [maxLen]; omega) (by omega) ?_; intro A6 c6 w6 hc6 hs6 H6'; have H6 := Lib.hid H6'; clear H6')
          go_roundg (n - (k + 1))
          case measure => omega
          case rel =>
            refine ⟨k + 1, A6, c6, _, _, es ++ [(⟨0, 0⟩ : A)], by omega, rfl, by go_num, rfl, HEL2.out, HNN.out, Lib.hid ⟨es1, HP2.out, HAS.out⟩, ?_⟩
            rw [List.flatMap_append]
            exact H6.out.pick [0, 1] (by decide) (by simp)
    · obtain rfl : k = n := by omega
      obtain ⟨es', h1, h2⟩ := HF.out
      rw [List.drop_of_length_le (by rw [HL.out]; omega)] at h1
      cases h1
      rw [List.append_nil] at h2
      subst h2
      go_wp2
      refine bodyPost_ret (v := .tuple #[.slice A5 k c5, .int .i64 0]) (by simp [results, Try.results14]) rfl ?_
      exact ⟨A5, c5, rfl, HS.out.pick [1] (by decide) (by simp)⟩
end Ft
end Go.Proofs.Ytfljbiobiobamaa
