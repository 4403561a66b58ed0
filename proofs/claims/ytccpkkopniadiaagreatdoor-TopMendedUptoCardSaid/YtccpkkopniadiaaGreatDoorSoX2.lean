/-
  Walk of the reference's XPlay. Conditions: none beyond the theorem's own premises.
-/
import Derived.Test.YtccpkkopniadiaaGreatDoorSoX
import Derived.Test.YtccpkkopniadiaaGreatDoorSoW3
import Derived.BigRegion
namespace Go.Proofs.YtccpkkopniadiaaGreatDoor
open Go.RowKit Go.Shelf
set_option linter.unusedVariables false
namespace So
open Dr

theorem Kp.rowCells {cur : List Kp} {m : Nat} {y : Kp} (hy : cur[m]? = some y) : (cur.flatMap Kp.cells)[m * 2]? = some (.string y.nm) ∧ (cur.flatMap Kp.cells)[m * 2 + 1]? = some (.string y.dt) :=
  ⟨flat_get Kp.len cur m 0 y hy (by decide), flat_get Kp.len cur m 1 y hy (by decide)⟩
set_option maxRecDepth 100000 in
set_option maxHeartbeats 6400000 in
theorem xplay_any (Ad : Option Addr) (T cT : Nat) (ops : List Op) (an : List An) (D1 : Fs) (C1 : List Op) (w : World) (hr : Rd w w.heap.size 4 Ad T (ops.flatMap Op.cells)) (hl : ops.length = T) (hn : T ≤ 2932031007317) (hp : Plays mno [] ops an D1 C1)
    (hwf : ∀ o ∈ ops, o.nm.size ≤ maxLen ∧ o.dt.size ≤ maxLen) :
    Calls Tryz.prog 21 #[.slice Ad T cT] w (PlayRet w T an (now D1 C1)) := by
  obtain ⟨ti, hti, t0, t1, t2⟩ := info_parts ans_info
  obtain ⟨tj, htj, j0, j1, j2⟩ := info_parts op_info
  obtain ⟨tk, htk, k0, k1, k2⟩ := info_parts kept_info
  have hmm := @run_makeMap Tryz.prog
  have eg : ∀ args w, (callFunc 41 args).run Tryz.prog w = .ok (.enter 41 args) w := enters_of Tryz.func41 (by kernel_rfl) rfl
  have HR := Lib.hid hr
  have HLT := Lib.hid hl
  have HW := Lib.hid hwf
  have HF : Hid (∃ es', Plays mno [] (ops.drop 0) es' D1 C1 ∧ an = [] ++ es') := Lib.hid ⟨an, hp, rfl⟩
  have S1 : Hid (Sep w (w.alloc (.map #[] 0)) [fm w.heap.size 0 mno, oR none 0 0 [], aR none 0 0 []]) := Lib.hid ((((Sep.nil_ w).newMap Tryz.prog 9 (Value.string) (Value.string)).nilRow 53 4 none).nilRow 37 2 none)
  clear hr hl hp hwf
  go_enter Tryz.func21, Tryz.ntmps21
  go_wp2
  clear hmm
  generalize w.alloc (.map #[] 0) = w1 at S1 ⊢
  generalize w.heap.size = gs0 at S1 ⊢
  go_loopg [5, 6, 7, 22] T (fun q v5 v6 v7 i wr => ∃ (k gs ns : Nat) (A : Option Addr) (n c : Nat) (A7 : Option Addr) (c7 : Nat) (D : Fs) (C : List Op) (es : List An), k ≤ T ∧ q = T - k ∧ i = .int .i64 (k : Int) ∧ v5 = .map (some gs) ∧ v6 = .slice A n c ∧ v7 = .slice A7 k c7 ∧ Hid (es.length = k) ∧ C.length = n ∧ Hid (∀ x ∈ C, x.nm.size ≤ maxLen) ∧ ns + n ≤ k ∧
    Hid (∃ es', Plays D C (ops.drop k) es' D1 C1 ∧ an = es ++ es') ∧ Sep w wr [fm gs ns D, oR A n c C, aR A7 k c7 es])
  case atStart => exact ⟨0, gs0, 0, none, 0, 0, none, 0, mno, [], [], Nat.zero_le _, rfl, rfl, rfl, rfl, rfl, Lib.hid rfl, rfl, Lib.hid (by simp), by omega, HF, S1.out⟩
  case round =>
    clear HF S1
    obtain ⟨k, gs, ns, A, n, c, A7, c7, D, C, es, hk, rfl, rfl, rfl, rfl, rfl, HEL, hl, HCS, hnk, HF, hs⟩ := hrel
    have HS := Lib.hid hs
    have HL := Lib.hid hl
    clear hs hl
    by_cases hlt : k < T
    · obtain ⟨b, off, rfl, hb, hc⟩ := HR.out.at_ Op.len (by omega)
      obtain ⟨o, ho⟩ : ∃ o, ops[k]? = some o := ⟨_, List.getElem?_eq_getElem (by rw [HLT.out]; exact hlt)⟩
      have hbel : Below w.heap.size w wr := HS.out.below
      have q0 : wr.cell? ⟨b, off + k * 4, none⟩ = some (.int .i64 o.kind) := (hbel.cell hb).trans (hc k 0 o _ ho rfl)
      have q1 : wr.cell? ⟨b, off + k * 4 + 1, none⟩ = some (.string o.nm) := (hbel.cell hb).trans (hc k 1 o _ ho rfl)
      have q2 : wr.cell? ⟨b, off + k * 4 + 2, none⟩ = some (.string o.dt) := (hbel.cell hb).trans (hc k 2 o _ ho rfl)
      have q3 : wr.cell? ⟨b, off + k * 4 + 3, none⟩ = some (.int .i64 o.keep) := (hbel.cell hb).trans (hc k 3 o _ ho rfl)
      have i0 : (0 : Int) ≤ (k : Int) := by omega
      have i1 : (k : Int) < (T : Int) := by omega
      have HWF := Lib.hid (HW.out o (List.mem_of_getElem? ho))
      obtain ⟨er, dd, D2, C2, es1, HWAY, HP2, HAS⟩ : ∃ er dd D2 C2 es1, Hid (Way D C o ⟨er, dd⟩ D2 C2) ∧ Hid (Plays D2 C2 (ops.drop (k + 1)) es1 D1 C1) ∧ Hid (an = (es ++ [⟨er, dd⟩]) ++ es1) := by
        obtain ⟨es', h1, h2⟩ := HF.out
        obtain ⟨⟨er, dd⟩, as', D2, C2, rfl, hw, ht⟩ := plays_next h1 ho
        exact ⟨_, _, _, _, _, Lib.hid hw, Lib.hid ht, Lib.hid (by rw [h2]; simp)⟩
      have HEL2 : Hid ((es ++ [(⟨er, dd⟩ : An)]).length = k + 1) := Lib.hid (by rw [List.length_append, HEL.out]; rfl)
      have HCS2 : Hid (∀ x ∈ C2, x.nm.size ≤ maxLen) := Lib.hid (way_sz HWAY.out HCS.out HWF.out.1)
      have HS2 : Hid (Sep w (wr.alloc (.cells #[.int .i64 o.kind, .string o.nm, .string o.dt, .int .i64 o.keep] 53)) [fm gs ns D, oR A n c C, aR A7 k c7 es, oC wr.heap.size o]) := Lib.hid (HS.out.new 53 o.cells)
      clear hc ho HF hbel HS
      go_upto_region 8 with (fail)
      clear q0 q1 q2 q3
      generalize wr.alloc (.cells #[.int .i64 o.kind, .string o.nm, .string o.dt, .int .i64 o.keep] 53) = wo at HS2 ⊢
      generalize wr.heap.size = gx at HS2 ⊢
      have cA := Lib.hid (copy_any w wo _ 0 1 gs ns D A n c C n HS2.out (by omega) rfl rfl HL.out (Nat.le_refl _) HCS.out (by unfold maxLen; omega))
      have HTK : Hid (C.take n = C) := Lib.hid (by rw [← HL.out]; exact List.take_length)
      go_upto_region 9 with (go_at_fn 41; refine cA.out.mono ?_; rintro en w5 ⟨gN, nN, rfl, hnN, hs5⟩)
      rw [HTK.out] at hs5
      have e1 := hs5.cell 3 rfl (k := 1) rfl
      obtain ⟨v, hv⟩ : ∃ v, now D C o.nm = v := ⟨_, rfl⟩
      have l1 := hs5.look2 4 rfl kstr HWF.out.1 Tryz.underlying92 (sz w5)
      rw [hv] at l1
      have HC := Lib.hid (sep_cnt hs5 4 rfl)
      have HS6 : Hid (Sep w (w5.alloc (.cells #[.int .i64 0, .string ⟨#[]⟩] 37)) [fm gs ns D, oR A n c C, aR A7 k c7 es, oC gx o, fm gN nN (now D C), aC w5.heap.size ⟨0, ⟨#[]⟩⟩]) := Lib.hid (hs5.new 37 [.int .i64 0, .string ⟨#[]⟩])
      have HV := Lib.hid hv
      clear cA HS2 hs5
      go_upto_region 12 with (fail)
      clear e1 l1
      generalize w5.alloc (.cells #[.int .i64 0, .string ⟨#[]⟩] 37) = w8 at HS6 ⊢
      generalize w5.heap.size = gy at HS6 ⊢
      have HS := HS6
      clear HS6 hv
      obtain ⟨kd, hkd⟩ : ∃ kd, o.kind = kd := ⟨_, rfl⟩
      have HKD := Lib.hid hkd
      have e0 := HS.out.cell 3 rfl (k := 0) rfl
      have e1 := HS.out.cell 3 rfl (k := 1) rfl
      have e2 := HS.out.cell 3 rfl (k := 2) rfl
      have e3 := HS.out.cell 3 rfl (k := 3) rfl
      have p0 := HS.out.cell 5 rfl (k := 0) rfl
      have p1 := HS.out.cell 5 rfl (k := 1) rfl
      have u0 := HS.out.froz 5 rfl (k := 0)
      have u1 := HS.out.froz 5 rfl (k := 1)
      have hml := fun ty => HS.out.mapLen 4 rfl Tryz.underlying92 ty
      have hsz9 : o.nm.size ≤ 9223372036854775807 := by have := HWF.out.1; unfold maxLen at this; omega
      simp only at e0 e1 e2 e3 p0 p1
      rw [hkd] at e0
      clear hkd
      have hw := HWAY.out
      clear HWAY
      cases hw with
      | low h =>
        rw [HKD.out] at h
        have HS9 := Lib.hid (HS.out.set 5 rfl (k := 0) (.int .i64 5))
        go_upto_region 27 with (fail)
        clear e0 e1 e2 e3 p0 p1 u0 u1 HS
        generalize World.setCell _ ⟨gy, 0, none⟩ (.int .i64 5) = w9 at HS9 ⊢
        have f0 := HS9.out.cell 5 rfl (k := 0) rfl
        have f1 := HS9.out.cell 5 rfl (k := 1) rfl
        have hnew := Lib.hid (Rd.of_own (own_new w9 37 #[.int .i64 5, .string ⟨#[]⟩] 2 1 rfl (by simp [maxLen]) (Nat.le_refl _)))
        go_wp2_with (at_builtin; refine wpList_append_sep (HS9.out.alloc _) 2 rfl (.tmp 130) (.tmp 132) 32 rfl 37 ti (.agg #[.int .i64 0, .string ⟨#[]⟩]) 2 24 Tryz.underlying32 hti t0 t1 t2 rfl (by omega) _ k _ rfl rfl _ _ 1 1 _ rfl hnew.out (by simp [Value.oneCell']) (by simp only [maxLen]; omega) (by omega) ?_; intro A6 c6 w6 hc6 hs6 H6'; have H6 := Lib.hid H6'; clear H6' hs6)
        go_roundg (T - (k + 1))
        case measure => omega
        case rel => exact ⟨k + 1, gs, ns, A, n, c, A6, c6, D, C, es ++ [⟨5, ⟨#[]⟩⟩], by omega, rfl, by go_num, rfl, rfl, rfl, HEL2, HL.out, HCS, by omega, Lib.hid ⟨es1, HP2.out, HAS.out⟩, by
          have h := H6.out.pick [0, 1, 2] (by decide) (by simp)
          unfold aR
          rw [List.flatMap_append]
          exact h⟩
      | high h =>
        rw [HKD.out] at h
        have h0 : ¬ kd < 1 := by omega
        have HS9 := Lib.hid (HS.out.set 5 rfl (k := 0) (.int .i64 5))
        go_upto_region 27 with (fail)
        clear e0 e1 e2 e3 p0 p1 u0 u1 HS
        generalize World.setCell _ ⟨gy, 0, none⟩ (.int .i64 5) = w9 at HS9 ⊢
        have f0 := HS9.out.cell 5 rfl (k := 0) rfl
        have f1 := HS9.out.cell 5 rfl (k := 1) rfl
        have hnew := Lib.hid (Rd.of_own (own_new w9 37 #[.int .i64 5, .string ⟨#[]⟩] 2 1 rfl (by simp [maxLen]) (Nat.le_refl _)))
        go_wp2_with (at_builtin; refine wpList_append_sep (HS9.out.alloc _) 2 rfl (.tmp 130) (.tmp 132) 32 rfl 37 ti (.agg #[.int .i64 0, .string ⟨#[]⟩]) 2 24 Tryz.underlying32 hti t0 t1 t2 rfl (by omega) _ k _ rfl rfl _ _ 1 1 _ rfl hnew.out (by simp [Value.oneCell']) (by simp only [maxLen]; omega) (by omega) ?_; intro A6 c6 w6 hc6 hs6 H6'; have H6 := Lib.hid H6'; clear H6' hs6)
        go_roundg (T - (k + 1))
        case measure => omega
        case rel => exact ⟨k + 1, gs, ns, A, n, c, A6, c6, D, C, es ++ [⟨5, ⟨#[]⟩⟩], by omega, rfl, by go_num, rfl, rfl, rfl, HEL2, HL.out, HCS, by omega, Lib.hid ⟨es1, HP2.out, HAS.out⟩, by
          have h := H6.out.pick [0, 1, 2] (by decide) (by simp)
          unfold aR
          rw [List.flatMap_append]
          exact h⟩
      | bad h h1 =>
        obtain rfl : kd = 1 := by rw [← HKD.out]; exact h
        have cG := Lib.hid (fun W => ogood_any o.nm false W hsz9 ⟨fun e => absurd e (by decide), fun e => absurd e h1⟩)
        go_wp2_with fail
        refine (cG.out _).mono ?_; rintro en w9 ⟨rfl, hb9⟩
        have HSa := Lib.hid (HS.out.later hb9)
        clear HS hb9 cG e0 e1 e2 e3 p0 p1 u0 u1 hml
        have HS := HSa
        clear HSa
        generalize w9 = w8 at HS ⊢
        have e0 := HS.out.cell 3 rfl (k := 0) rfl
        have e1 := HS.out.cell 3 rfl (k := 1) rfl
        have e2 := HS.out.cell 3 rfl (k := 2) rfl
        have e3 := HS.out.cell 3 rfl (k := 3) rfl
        have p0 := HS.out.cell 5 rfl (k := 0) rfl
        have p1 := HS.out.cell 5 rfl (k := 1) rfl
        have u0 := HS.out.froz 5 rfl (k := 0)
        have u1 := HS.out.froz 5 rfl (k := 1)
        have hml := fun ty => HS.out.mapLen 4 rfl Tryz.underlying92 ty
        try simp only at e0 e1 e2 e3 p0 p1
        rw [HKD.out] at e0
        have HS9 := Lib.hid (HS.out.set 5 rfl (k := 0) (.int .i64 2))
        go_upto_region 27 with (fail)
        clear e0 e1 e2 e3 p0 p1 u0 u1 HS
        generalize World.setCell _ ⟨gy, 0, none⟩ (.int .i64 2) = w9 at HS9 ⊢
        have f0 := HS9.out.cell 5 rfl (k := 0) rfl
        have f1 := HS9.out.cell 5 rfl (k := 1) rfl
        have hnew := Lib.hid (Rd.of_own (own_new w9 37 #[.int .i64 2, .string ⟨#[]⟩] 2 1 rfl (by simp [maxLen]) (Nat.le_refl _)))
        go_wp2_with (at_builtin; refine wpList_append_sep (HS9.out.alloc _) 2 rfl (.tmp 130) (.tmp 132) 32 rfl 37 ti (.agg #[.int .i64 0, .string ⟨#[]⟩]) 2 24 Tryz.underlying32 hti t0 t1 t2 rfl (by omega) _ k _ rfl rfl _ _ 1 1 _ rfl hnew.out (by simp [Value.oneCell']) (by simp only [maxLen]; omega) (by omega) ?_; intro A6 c6 w6 hc6 hs6 H6'; have H6 := Lib.hid H6'; clear H6' hs6)
        go_roundg (T - (k + 1))
        case measure => omega
        case rel => exact ⟨k + 1, gs, ns, A, n, c, A6, c6, D, C, es ++ [⟨2, ⟨#[]⟩⟩], by omega, rfl, by go_num, rfl, rfl, rfl, HEL2, HL.out, HCS, by omega, Lib.hid ⟨es1, HP2.out, HAS.out⟩, by
          have h := H6.out.pick [0, 1, 2] (by decide) (by simp)
          unfold aR
          rw [List.flatMap_append]
          exact h⟩
      | long h h1 h2 =>
        obtain rfl : kd = 1 := by rw [← HKD.out]; exact h
        have i2 : (200 : Int) < (o.dt.size : Int) := by omega
        have cG := Lib.hid (fun W => ogood_any o.nm true W hsz9 ⟨fun _ => h1, fun _ => rfl⟩)
        go_wp2_with fail
        refine (cG.out _).mono ?_; rintro en w9 ⟨rfl, hb9⟩
        have HSa := Lib.hid (HS.out.later hb9)
        clear HS hb9 cG e0 e1 e2 e3 p0 p1 u0 u1 hml
        have HS := HSa
        clear HSa
        generalize w9 = w8 at HS ⊢
        have e0 := HS.out.cell 3 rfl (k := 0) rfl
        have e1 := HS.out.cell 3 rfl (k := 1) rfl
        have e2 := HS.out.cell 3 rfl (k := 2) rfl
        have e3 := HS.out.cell 3 rfl (k := 3) rfl
        have p0 := HS.out.cell 5 rfl (k := 0) rfl
        have p1 := HS.out.cell 5 rfl (k := 1) rfl
        have u0 := HS.out.froz 5 rfl (k := 0)
        have u1 := HS.out.froz 5 rfl (k := 1)
        have hml := fun ty => HS.out.mapLen 4 rfl Tryz.underlying92 ty
        try simp only at e0 e1 e2 e3 p0 p1
        rw [HKD.out] at e0
        have HS9 := Lib.hid (HS.out.set 5 rfl (k := 0) (.int .i64 2))
        go_upto_region 27 with (fail)
        clear e0 e1 e2 e3 p0 p1 u0 u1 HS
        generalize World.setCell _ ⟨gy, 0, none⟩ (.int .i64 2) = w9 at HS9 ⊢
        have f0 := HS9.out.cell 5 rfl (k := 0) rfl
        have f1 := HS9.out.cell 5 rfl (k := 1) rfl
        have hnew := Lib.hid (Rd.of_own (own_new w9 37 #[.int .i64 2, .string ⟨#[]⟩] 2 1 rfl (by simp [maxLen]) (Nat.le_refl _)))
        go_wp2_with (at_builtin; refine wpList_append_sep (HS9.out.alloc _) 2 rfl (.tmp 130) (.tmp 132) 32 rfl 37 ti (.agg #[.int .i64 0, .string ⟨#[]⟩]) 2 24 Tryz.underlying32 hti t0 t1 t2 rfl (by omega) _ k _ rfl rfl _ _ 1 1 _ rfl hnew.out (by simp [Value.oneCell']) (by simp only [maxLen]; omega) (by omega) ?_; intro A6 c6 w6 hc6 hs6 H6'; have H6 := Lib.hid H6'; clear H6' hs6)
        go_roundg (T - (k + 1))
        case measure => omega
        case rel => exact ⟨k + 1, gs, ns, A, n, c, A6, c6, D, C, es ++ [⟨2, ⟨#[]⟩⟩], by omega, rfl, by go_num, rfl, rfl, rfl, HEL2, HL.out, HCS, by omega, Lib.hid ⟨es1, HP2.out, HAS.out⟩, by
          have h := H6.out.pick [0, 1, 2] (by decide) (by simp)
          unfold aR
          rw [List.flatMap_append]
          exact h⟩
      | full h h1 h2 h3 m h4 h5 =>
        obtain rfl : kd = 1 := by rw [← HKD.out]; exact h
        obtain rfl : v = none := by rw [← HV.out]; exact h3
        obtain rfl := cnt_one HC.out h4
        have i2 : ¬ (200 : Int) < (o.dt.size : Int) := by omega
        have i3 : (8 : Int) ≤ (nN : Int) := by omega
        clear h h2 h3 h4 h5
        have cG := Lib.hid (fun W => ogood_any o.nm true W hsz9 ⟨fun _ => h1, fun _ => rfl⟩)
        go_wp2_with fail
        refine (cG.out _).mono ?_; rintro en w9 ⟨rfl, hb9⟩
        have HSa := Lib.hid (HS.out.later hb9)
        clear HS hb9 cG e0 e1 e2 e3 p0 p1 u0 u1 hml
        have HS := HSa
        clear HSa
        generalize w9 = w8 at HS ⊢
        have e0 := HS.out.cell 3 rfl (k := 0) rfl
        have e1 := HS.out.cell 3 rfl (k := 1) rfl
        have e2 := HS.out.cell 3 rfl (k := 2) rfl
        have e3 := HS.out.cell 3 rfl (k := 3) rfl
        have p0 := HS.out.cell 5 rfl (k := 0) rfl
        have p1 := HS.out.cell 5 rfl (k := 1) rfl
        have u0 := HS.out.froz 5 rfl (k := 0)
        have u1 := HS.out.froz 5 rfl (k := 1)
        have hml := fun ty => HS.out.mapLen 4 rfl Tryz.underlying92 ty
        try simp only at e0 e1 e2 e3 p0 p1
        rw [HKD.out] at e0
        have HS9 := Lib.hid (HS.out.set 5 rfl (k := 0) (.int .i64 4))
        go_upto_region 27 with (fail)
        clear e0 e1 e2 e3 p0 p1 u0 u1 HS
        generalize World.setCell _ ⟨gy, 0, none⟩ (.int .i64 4) = w9 at HS9 ⊢
        have f0 := HS9.out.cell 5 rfl (k := 0) rfl
        have f1 := HS9.out.cell 5 rfl (k := 1) rfl
        have hnew := Lib.hid (Rd.of_own (own_new w9 37 #[.int .i64 4, .string ⟨#[]⟩] 2 1 rfl (by simp [maxLen]) (Nat.le_refl _)))
        go_wp2_with (at_builtin; refine wpList_append_sep (HS9.out.alloc _) 2 rfl (.tmp 130) (.tmp 132) 32 rfl 37 ti (.agg #[.int .i64 0, .string ⟨#[]⟩]) 2 24 Tryz.underlying32 hti t0 t1 t2 rfl (by omega) _ k _ rfl rfl _ _ 1 1 _ rfl hnew.out (by simp [Value.oneCell']) (by simp only [maxLen]; omega) (by omega) ?_; intro A6 c6 w6 hc6 hs6 H6'; have H6 := Lib.hid H6'; clear H6' hs6)
        go_roundg (T - (k + 1))
        case measure => omega
        case rel => exact ⟨k + 1, gs, ns, A, n, c, A6, c6, D, C, es ++ [⟨4, ⟨#[]⟩⟩], by omega, rfl, by go_num, rfl, rfl, rfl, HEL2, HL.out, HCS, by omega, Lib.hid ⟨es1, HP2.out, HAS.out⟩, by
          have h := H6.out.pick [0, 1, 2] (by decide) (by simp)
          unfold aR
          rw [List.flatMap_append]
          exact h⟩
      | fresh h h1 h2 h3 m h4 h5 =>
        obtain rfl : kd = 1 := by rw [← HKD.out]; exact h
        obtain rfl : v = none := by rw [← HV.out]; exact h3
        obtain rfl := cnt_one HC.out h4
        have i2 : ¬ (200 : Int) < (o.dt.size : Int) := by omega
        have i3 : ¬ (8 : Int) ≤ (nN : Int) := by omega
        clear h h2 h3 h4 h5
        have cG := Lib.hid (fun W => ogood_any o.nm true W hsz9 ⟨fun _ => h1, fun _ => rfl⟩)
        go_wp2_with fail
        refine (cG.out _).mono ?_; rintro en w9 ⟨rfl, hb9⟩
        have HSa := Lib.hid (HS.out.later hb9)
        clear HS hb9 cG e0 e1 e2 e3 p0 p1 u0 u1 hml
        have HS := HSa
        clear HSa
        generalize w9 = w8 at HS ⊢
        have e0 := HS.out.cell 3 rfl (k := 0) rfl
        have e1 := HS.out.cell 3 rfl (k := 1) rfl
        have e2 := HS.out.cell 3 rfl (k := 2) rfl
        have e3 := HS.out.cell 3 rfl (k := 3) rfl
        have p0 := HS.out.cell 5 rfl (k := 0) rfl
        have p1 := HS.out.cell 5 rfl (k := 1) rfl
        have u0 := HS.out.froz 5 rfl (k := 0)
        have u1 := HS.out.froz 5 rfl (k := 1)
        have hml := fun ty => HS.out.mapLen 4 rfl Tryz.underlying92 ty
        try simp only at e0 e1 e2 e3 p0 p1
        rw [HKD.out] at e0
        have hnew0 := Lib.hid (Rd.of_own (own_new w8 53 #[.int .i64 o.kind, .string o.nm, .string o.dt, .int .i64 o.keep] 4 1 rfl (by simp [maxLen]) (Nat.le_refl _)))
        rw [HKD.out] at hnew0
        go_upto_region 27 with (at_builtin; refine wpList_append_sep (HS.out.alloc _) 1 rfl (.tmp 38) (.tmp 40) 28 rfl 53 tj (.agg #[.int .i64 0, .string ⟨#[]⟩, .string ⟨#[]⟩, .int .i64 0]) 4 48 Tryz.underlying28 htj j0 j1 j2 rfl (by omega) _ n _ rfl rfl _ _ 1 1 _ rfl hnew0.out (by simp [Value.oneCell']) (by simp only [maxLen]; omega) (by omega) ?_; intro A9 c9 w9 hc9 hs9 H9'; have HS9 := Lib.hid H9'; clear H9' hs9)
        clear e0 e1 e2 e3 p0 p1 u0 u1 HS hnew0
        have f0 := HS9.out.cell 5 rfl (k := 0) rfl
        have f1 := HS9.out.cell 5 rfl (k := 1) rfl
        have hnew := Lib.hid (Rd.of_own (own_new w9 37 #[.int .i64 0, .string ⟨#[]⟩] 2 1 rfl (by simp [maxLen]) (Nat.le_refl _)))
        go_wp2_with (at_builtin; refine wpList_append_sep (HS9.out.alloc _) 2 rfl (.tmp 130) (.tmp 132) 32 rfl 37 ti (.agg #[.int .i64 0, .string ⟨#[]⟩]) 2 24 Tryz.underlying32 hti t0 t1 t2 rfl (by omega) _ k _ rfl rfl _ _ 1 1 _ rfl hnew.out (by simp [Value.oneCell']) (by simp only [maxLen]; omega) (by omega) ?_; intro A6 c6 w6 hc6 hs6 H6'; have H6 := Lib.hid H6'; clear H6' hs6)
        go_roundg (T - (k + 1))
        case measure => omega
        case rel => exact ⟨k + 1, gs, ns, A9, n + 1, c9, A6, c6, D, C ++ [o], es ++ [⟨0, ⟨#[]⟩⟩], by omega, rfl, by go_num, rfl, rfl, rfl, HEL2, by rw [List.length_append, HL.out]; rfl, HCS2, by omega, Lib.hid ⟨es1, HP2.out, HAS.out⟩, by
          have h := H6.out.pick [0, 1, 2] (by decide) (by simp)
          unfold aR oR
          rw [List.flatMap_append, List.flatMap_append]
          have e : [o].flatMap Op.cells = [.int .i64 1, .string o.nm, .string o.dt, .int .i64 o.keep] := by rw [← HKD.out]; rfl
          rw [e]
          exact h⟩
      | over h h1 h2 x h3 =>
        obtain rfl : kd = 1 := by rw [← HKD.out]; exact h
        obtain rfl : v = some x := by rw [← HV.out]; exact h3
        have i2 : ¬ (200 : Int) < (o.dt.size : Int) := by omega
        clear h h2 h3
        have cG := Lib.hid (fun W => ogood_any o.nm true W hsz9 ⟨fun _ => h1, fun _ => rfl⟩)
        go_wp2_with fail
        refine (cG.out _).mono ?_; rintro en w9 ⟨rfl, hb9⟩
        have HSa := Lib.hid (HS.out.later hb9)
        clear HS hb9 cG e0 e1 e2 e3 p0 p1 u0 u1 hml
        have HS := HSa
        clear HSa
        generalize w9 = w8 at HS ⊢
        have e0 := HS.out.cell 3 rfl (k := 0) rfl
        have e1 := HS.out.cell 3 rfl (k := 1) rfl
        have e2 := HS.out.cell 3 rfl (k := 2) rfl
        have e3 := HS.out.cell 3 rfl (k := 3) rfl
        have p0 := HS.out.cell 5 rfl (k := 0) rfl
        have p1 := HS.out.cell 5 rfl (k := 1) rfl
        have u0 := HS.out.froz 5 rfl (k := 0)
        have u1 := HS.out.froz 5 rfl (k := 1)
        have hml := fun ty => HS.out.mapLen 4 rfl Tryz.underlying92 ty
        try simp only at e0 e1 e2 e3 p0 p1
        rw [HKD.out] at e0
        have hnew0 := Lib.hid (Rd.of_own (own_new w8 53 #[.int .i64 o.kind, .string o.nm, .string o.dt, .int .i64 o.keep] 4 1 rfl (by simp [maxLen]) (Nat.le_refl _)))
        rw [HKD.out] at hnew0
        go_upto_region 27 with (at_builtin; refine wpList_append_sep (HS.out.alloc _) 1 rfl (.tmp 38) (.tmp 40) 28 rfl 53 tj (.agg #[.int .i64 0, .string ⟨#[]⟩, .string ⟨#[]⟩, .int .i64 0]) 4 48 Tryz.underlying28 htj j0 j1 j2 rfl (by omega) _ n _ rfl rfl _ _ 1 1 _ rfl hnew0.out (by simp [Value.oneCell']) (by simp only [maxLen]; omega) (by omega) ?_; intro A9 c9 w9 hc9 hs9 H9'; have HS9 := Lib.hid H9'; clear H9' hs9)
        clear e0 e1 e2 e3 p0 p1 u0 u1 HS hnew0
        have f0 := HS9.out.cell 5 rfl (k := 0) rfl
        have f1 := HS9.out.cell 5 rfl (k := 1) rfl
        have hnew := Lib.hid (Rd.of_own (own_new w9 37 #[.int .i64 0, .string ⟨#[]⟩] 2 1 rfl (by simp [maxLen]) (Nat.le_refl _)))
        go_wp2_with (at_builtin; refine wpList_append_sep (HS9.out.alloc _) 2 rfl (.tmp 130) (.tmp 132) 32 rfl 37 ti (.agg #[.int .i64 0, .string ⟨#[]⟩]) 2 24 Tryz.underlying32 hti t0 t1 t2 rfl (by omega) _ k _ rfl rfl _ _ 1 1 _ rfl hnew.out (by simp [Value.oneCell']) (by simp only [maxLen]; omega) (by omega) ?_; intro A6 c6 w6 hc6 hs6 H6'; have H6 := Lib.hid H6'; clear H6' hs6)
        go_roundg (T - (k + 1))
        case measure => omega
        case rel => exact ⟨k + 1, gs, ns, A9, n + 1, c9, A6, c6, D, C ++ [o], es ++ [⟨0, ⟨#[]⟩⟩], by omega, rfl, by go_num, rfl, rfl, rfl, HEL2, by rw [List.length_append, HL.out]; rfl, HCS2, by omega, Lib.hid ⟨es1, HP2.out, HAS.out⟩, by
          have h := H6.out.pick [0, 1, 2] (by decide) (by simp)
          unfold aR oR
          rw [List.flatMap_append, List.flatMap_append]
          have e : [o].flatMap Op.cells = [.int .i64 1, .string o.nm, .string o.dt, .int .i64 o.keep] := by rw [← HKD.out]; rfl
          rw [e]
          exact h⟩
      | none2 h h3 =>
        obtain rfl : kd = 2 := by rw [← HKD.out]; exact h
        obtain rfl : v = none := by rw [← HV.out]; exact h3
        clear h h3
        have HS9 := Lib.hid (HS.out.set 5 rfl (k := 0) (.int .i64 3))
        go_upto_region 27 with (fail)
        clear e0 e1 e2 e3 p0 p1 u0 u1 HS
        generalize World.setCell _ ⟨gy, 0, none⟩ (.int .i64 3) = w9 at HS9 ⊢
        have f0 := HS9.out.cell 5 rfl (k := 0) rfl
        have f1 := HS9.out.cell 5 rfl (k := 1) rfl
        have hnew := Lib.hid (Rd.of_own (own_new w9 37 #[.int .i64 3, .string ⟨#[]⟩] 2 1 rfl (by simp [maxLen]) (Nat.le_refl _)))
        go_wp2_with (at_builtin; refine wpList_append_sep (HS9.out.alloc _) 2 rfl (.tmp 130) (.tmp 132) 32 rfl 37 ti (.agg #[.int .i64 0, .string ⟨#[]⟩]) 2 24 Tryz.underlying32 hti t0 t1 t2 rfl (by omega) _ k _ rfl rfl _ _ 1 1 _ rfl hnew.out (by simp [Value.oneCell']) (by simp only [maxLen]; omega) (by omega) ?_; intro A6 c6 w6 hc6 hs6 H6'; have H6 := Lib.hid H6'; clear H6' hs6)
        go_roundg (T - (k + 1))
        case measure => omega
        case rel => exact ⟨k + 1, gs, ns, A, n, c, A6, c6, D, C, es ++ [⟨3, ⟨#[]⟩⟩], by omega, rfl, by go_num, rfl, rfl, rfl, HEL2, HL.out, HCS, by omega, Lib.hid ⟨es1, HP2.out, HAS.out⟩, by
          have h := H6.out.pick [0, 1, 2] (by decide) (by simp)
          unfold aR
          rw [List.flatMap_append]
          exact h⟩
      | none3 h h3 =>
        obtain rfl : kd = 3 := by rw [← HKD.out]; exact h
        obtain rfl : v = none := by rw [← HV.out]; exact h3
        clear h h3
        have HS9 := Lib.hid (HS.out.set 5 rfl (k := 0) (.int .i64 3))
        go_upto_region 27 with (fail)
        clear e0 e1 e2 e3 p0 p1 u0 u1 HS
        generalize World.setCell _ ⟨gy, 0, none⟩ (.int .i64 3) = w9 at HS9 ⊢
        have f0 := HS9.out.cell 5 rfl (k := 0) rfl
        have f1 := HS9.out.cell 5 rfl (k := 1) rfl
        have hnew := Lib.hid (Rd.of_own (own_new w9 37 #[.int .i64 3, .string ⟨#[]⟩] 2 1 rfl (by simp [maxLen]) (Nat.le_refl _)))
        go_wp2_with (at_builtin; refine wpList_append_sep (HS9.out.alloc _) 2 rfl (.tmp 130) (.tmp 132) 32 rfl 37 ti (.agg #[.int .i64 0, .string ⟨#[]⟩]) 2 24 Tryz.underlying32 hti t0 t1 t2 rfl (by omega) _ k _ rfl rfl _ _ 1 1 _ rfl hnew.out (by simp [Value.oneCell']) (by simp only [maxLen]; omega) (by omega) ?_; intro A6 c6 w6 hc6 hs6 H6'; have H6 := Lib.hid H6'; clear H6' hs6)
        go_roundg (T - (k + 1))
        case measure => omega
        case rel => exact ⟨k + 1, gs, ns, A, n, c, A6, c6, D, C, es ++ [⟨3, ⟨#[]⟩⟩], by omega, rfl, by go_num, rfl, rfl, rfl, HEL2, HL.out, HCS, by omega, Lib.hid ⟨es1, HP2.out, HAS.out⟩, by
          have h := H6.out.pick [0, 1, 2] (by decide) (by simp)
          unfold aR
          rw [List.flatMap_append]
          exact h⟩
      | remove h x h3 =>
        obtain rfl : kd = 2 := by rw [← HKD.out]; exact h
        obtain rfl : v = some x := by rw [← HV.out]; exact h3
        clear h h3
        have hnew0 := Lib.hid (Rd.of_own (own_new w8 53 #[.int .i64 o.kind, .string o.nm, .string o.dt, .int .i64 o.keep] 4 1 rfl (by simp [maxLen]) (Nat.le_refl _)))
        rw [HKD.out] at hnew0
        go_upto_region 27 with (at_builtin; refine wpList_append_sep (HS.out.alloc _) 1 rfl (.tmp 38) (.tmp 40) 28 rfl 53 tj (.agg #[.int .i64 0, .string ⟨#[]⟩, .string ⟨#[]⟩, .int .i64 0]) 4 48 Tryz.underlying28 htj j0 j1 j2 rfl (by omega) _ n _ rfl rfl _ _ 1 1 _ rfl hnew0.out (by simp [Value.oneCell']) (by simp only [maxLen]; omega) (by omega) ?_; intro A9 c9 w9 hc9 hs9 H9'; have HS9 := Lib.hid H9'; clear H9' hs9)
        clear e0 e1 e2 e3 p0 p1 u0 u1 HS hnew0
        have f0 := HS9.out.cell 5 rfl (k := 0) rfl
        have f1 := HS9.out.cell 5 rfl (k := 1) rfl
        have hnew := Lib.hid (Rd.of_own (own_new w9 37 #[.int .i64 0, .string ⟨#[]⟩] 2 1 rfl (by simp [maxLen]) (Nat.le_refl _)))
        go_wp2_with (at_builtin; refine wpList_append_sep (HS9.out.alloc _) 2 rfl (.tmp 130) (.tmp 132) 32 rfl 37 ti (.agg #[.int .i64 0, .string ⟨#[]⟩]) 2 24 Tryz.underlying32 hti t0 t1 t2 rfl (by omega) _ k _ rfl rfl _ _ 1 1 _ rfl hnew.out (by simp [Value.oneCell']) (by simp only [maxLen]; omega) (by omega) ?_; intro A6 c6 w6 hc6 hs6 H6'; have H6 := Lib.hid H6'; clear H6' hs6)
        go_roundg (T - (k + 1))
        case measure => omega
        case rel => exact ⟨k + 1, gs, ns, A9, n + 1, c9, A6, c6, D, C ++ [o], es ++ [⟨0, ⟨#[]⟩⟩], by omega, rfl, by go_num, rfl, rfl, rfl, HEL2, by rw [List.length_append, HL.out]; rfl, HCS2, by omega, Lib.hid ⟨es1, HP2.out, HAS.out⟩, by
          have h := H6.out.pick [0, 1, 2] (by decide) (by simp)
          unfold aR oR
          rw [List.flatMap_append, List.flatMap_append]
          have e : [o].flatMap Op.cells = [.int .i64 2, .string o.nm, .string o.dt, .int .i64 o.keep] := by rw [← HKD.out]; rfl
          rw [e]
          exact h⟩
      | read h _ h3 =>
        obtain rfl : kd = 3 := by rw [← HKD.out]; exact h
        obtain rfl : v = some dd := by rw [← HV.out]; exact h3
        clear h h3
        have HS9 := Lib.hid (HS.out.set 5 rfl (k := 1) (.string dd))
        go_upto_region 27 with (fail)
        clear e0 e1 e2 e3 p0 p1 u0 u1 HS
        generalize World.setCell _ ⟨gy, 1, none⟩ (.string dd) = w9 at HS9 ⊢
        have f0 := HS9.out.cell 5 rfl (k := 0) rfl
        have f1 := HS9.out.cell 5 rfl (k := 1) rfl
        have hnew := Lib.hid (Rd.of_own (own_new w9 37 #[.int .i64 0, .string dd] 2 1 rfl (by simp [maxLen]) (Nat.le_refl _)))
        go_wp2_with (at_builtin; refine wpList_append_sep (HS9.out.alloc _) 2 rfl (.tmp 130) (.tmp 132) 32 rfl 37 ti (.agg #[.int .i64 0, .string ⟨#[]⟩]) 2 24 Tryz.underlying32 hti t0 t1 t2 rfl (by omega) _ k _ rfl rfl _ _ 1 1 _ rfl hnew.out (by simp [Value.oneCell']) (by simp only [maxLen]; omega) (by omega) ?_; intro A6 c6 w6 hc6 hs6 H6'; have H6 := Lib.hid H6'; clear H6' hs6)
        go_roundg (T - (k + 1))
        case measure => omega
        case rel => exact ⟨k + 1, gs, ns, A, n, c, A6, c6, D, C, es ++ [⟨0, dd⟩], by omega, rfl, by go_num, rfl, rfl, rfl, HEL2, HL.out, HCS, by omega, Lib.hid ⟨es1, HP2.out, HAS.out⟩, by
          have h := H6.out.pick [0, 1, 2] (by decide) (by simp)
          unfold aR
          rw [List.flatMap_append]
          exact h⟩
      | sync h =>
        obtain rfl : kd = 4 := by rw [← HKD.out]; exact h
        clear h
        go_upto_region 27 with (fail)
        clear e0 e1 e2 e3 p0 p1 u0 u1
        have HS9 := HS
        clear HS
        generalize w8 = w9 at HS9 ⊢
        have f0 := HS9.out.cell 5 rfl (k := 0) rfl
        have f1 := HS9.out.cell 5 rfl (k := 1) rfl
        have hnew := Lib.hid (Rd.of_own (own_new w9 37 #[.int .i64 0, .string ⟨#[]⟩] 2 1 rfl (by simp [maxLen]) (Nat.le_refl _)))
        go_wp2_with (at_builtin; refine wpList_append_sep (HS9.out.alloc _) 2 rfl (.tmp 130) (.tmp 132) 32 rfl 37 ti (.agg #[.int .i64 0, .string ⟨#[]⟩]) 2 24 Tryz.underlying32 hti t0 t1 t2 rfl (by omega) _ k _ rfl rfl _ _ 1 1 _ rfl hnew.out (by simp [Value.oneCell']) (by simp only [maxLen]; omega) (by omega) ?_; intro A6 c6 w6 hc6 hs6 H6'; have H6 := Lib.hid H6'; clear H6' hs6)
        go_roundg (T - (k + 1))
        case measure => omega
        case rel => exact ⟨k + 1, gN, nN, none, 0, 0, A6, c6, now D C, [], es ++ [⟨0, ⟨#[]⟩⟩], by omega, rfl, by go_num, rfl, rfl, rfl, HEL2, rfl, Lib.hid (by simp), by omega, Lib.hid ⟨es1, HP2.out, HAS.out⟩, by
          have h := (H6.out.nilRow 53 4 none).pick [4, 6, 2] (by decide) (by simp)
          unfold aR
          rw [List.flatMap_append]
          exact h⟩
      | before h h1 =>
        obtain rfl : kd = 5 := by rw [← HKD.out]; exact h
        clear h
        have HS9 := Lib.hid (HS.out.set 5 rfl (k := 0) (.int .i64 2))
        go_upto_region 27 with (fail)
        clear e0 e1 e2 e3 p0 p1 u0 u1 HS
        generalize World.setCell _ ⟨gy, 0, none⟩ (.int .i64 2) = w9 at HS9 ⊢
        have f0 := HS9.out.cell 5 rfl (k := 0) rfl
        have f1 := HS9.out.cell 5 rfl (k := 1) rfl
        have hnew := Lib.hid (Rd.of_own (own_new w9 37 #[.int .i64 2, .string ⟨#[]⟩] 2 1 rfl (by simp [maxLen]) (Nat.le_refl _)))
        go_wp2_with (at_builtin; refine wpList_append_sep (HS9.out.alloc _) 2 rfl (.tmp 130) (.tmp 132) 32 rfl 37 ti (.agg #[.int .i64 0, .string ⟨#[]⟩]) 2 24 Tryz.underlying32 hti t0 t1 t2 rfl (by omega) _ k _ rfl rfl _ _ 1 1 _ rfl hnew.out (by simp [Value.oneCell']) (by simp only [maxLen]; omega) (by omega) ?_; intro A6 c6 w6 hc6 hs6 H6'; have H6 := Lib.hid H6'; clear H6' hs6)
        go_roundg (T - (k + 1))
        case measure => omega
        case rel => exact ⟨k + 1, gs, ns, A, n, c, A6, c6, D, C, es ++ [⟨2, ⟨#[]⟩⟩], by omega, rfl, by go_num, rfl, rfl, rfl, HEL2, HL.out, HCS, by omega, Lib.hid ⟨es1, HP2.out, HAS.out⟩, by
          have h := H6.out.pick [0, 1, 2] (by decide) (by simp)
          unfold aR
          rw [List.flatMap_append]
          exact h⟩
      | crash h j h1 h2 =>
        obtain rfl : kd = 5 := by rw [← HKD.out]; exact h
        rw [HL.out] at h2
        have i3 : ¬ o.keep < 0 := by omega
        have hjn : j ≤ n := by omega
        have hnc : n ≤ c := by
          obtain ⟨A', c', e, h⟩ := (HS.out.rowHas 1 rfl).slice
          cases e
          exact h
        obtain ⟨mn, HMN, hmn⟩ := min2_ex Tryz.prog o.keep (n : Int)
        obtain rfl : mn = (j : Int) := by
          rw [HMN.out, ← h2]
          split <;> omega
        have hsl : ∀ W, (Instr.slice 28 (.slice A n c) none (some (.int .i64 (j : Int))) none).run Tryz.prog W = .ok (.slice A j c) W := fun W => upto_run Tryz.underlying28 (size_of_info htj j1) _ n c j (by omega) W
        have cB := Lib.hid (copy_any w w8 _ 0 1 gs ns D A n c C j HS.out (by omega) rfl rfl HL.out hjn HCS.out (by unfold maxLen; omega))
        clear h h1 h2 HMN
        go_upto_region 27 with (go_at_fn 41; refine cB.out.mono ?_; rintro en w9 ⟨g2, n2, rfl, hn2, hs9⟩)
        have HS9 := Lib.hid hs9
        clear e0 e1 e2 e3 p0 p1 u0 u1 HS hs9 cB
        have f0 := HS9.out.cell 5 rfl (k := 0) rfl
        have f1 := HS9.out.cell 5 rfl (k := 1) rfl
        have hnew := Lib.hid (Rd.of_own (own_new w9 37 #[.int .i64 0, .string ⟨#[]⟩] 2 1 rfl (by simp [maxLen]) (Nat.le_refl _)))
        go_wp2_with (at_builtin; refine wpList_append_sep (HS9.out.alloc _) 2 rfl (.tmp 130) (.tmp 132) 32 rfl 37 ti (.agg #[.int .i64 0, .string ⟨#[]⟩]) 2 24 Tryz.underlying32 hti t0 t1 t2 rfl (by omega) _ k _ rfl rfl _ _ 1 1 _ rfl hnew.out (by simp [Value.oneCell']) (by simp only [maxLen]; omega) (by omega) ?_; intro A6 c6 w6 hc6 hs6 H6'; have H6 := Lib.hid H6'; clear H6' hs6)
        go_roundg (T - (k + 1))
        case measure => omega
        case rel => exact ⟨k + 1, g2, n2, none, 0, 0, A6, c6, now D (C.take j), [], es ++ [⟨0, ⟨#[]⟩⟩], by omega, rfl, by go_num, rfl, rfl, rfl, HEL2, rfl, Lib.hid (by simp), by omega, Lib.hid ⟨es1, HP2.out, HAS.out⟩, by
          have h := (H6.out.nilRow 53 4 none).pick [6, 7, 2] (by decide) (by simp)
          unfold aR
          rw [List.flatMap_append]
          exact h⟩
    · obtain rfl : k = T := by omega
      obtain ⟨es', h1, h2⟩ := HF.out
      obtain ⟨rfl, hD, hC⟩ := plays_end h1 (by rw [HLT.out]; exact Nat.le_refl _)
      rw [List.append_nil] at h2
      have HAN := Lib.hid h2
      have HDC : Hid (now D1 C1 = now D C) := Lib.hid (by rw [hD, hC])
      have hkc : k ≤ c7 := by
        obtain ⟨A', c', e, h⟩ := (HS.out.rowHas 2 rfl).slice
        cases e
        exact h
      have cA := Lib.hid (copy_any w wr _ 0 1 gs ns D A n c C n HS.out (by omega) rfl rfl HL.out (Nat.le_refl _) HCS.out (by unfold maxLen; omega))
      have HTK : Hid (C.take n = C) := Lib.hid (by rw [← HL.out]; exact List.take_length)
      obtain ⟨N, hN⟩ : ∃ N, now D C = N := ⟨_, rfl⟩
      have HNN := Lib.hid hN
      clear h1 h2 hD hC HF hlt hN
      go_wp2_with (go_at_fn 41; refine cA.out.mono ?_; rintro en w5 ⟨gF, nF, rfl, hnF, hs5⟩; rw [HTK.out, HNN.out] at hs5; obtain ⟨es2, clock, M, H2⟩ := hs5.mapOpen 3 rfl; obtain ⟨hrun, H3, todo0, R0, htl, hmem⟩ := H2.rangeStart 3 rfl M kstr Tryz.underlying92)
      have HM := Lib.hid M
      have HR0 := Lib.hid R0
      have HS0 : Hid (Sep w (w5.alloc (.mapIter (some gF) clock #[] clock)) [fm gs ns D, oR A n c C, aR A7 k c7 es, .obj gF (.map es2 clock), .obj w5.heap.size (.mapIter (some gF) clock #[] clock), kR none 0 0 []]) := Lib.hid (H3.nilRow 56 2 none)
      have HI0 : Hid ((([] : List Kp).map (·.nm)).Nodup ∧ ∀ x : Kp, x ∈ ([] : List Kp) ↔ (N x.nm = some x.dt ∧ x.nm ∉ todo0)) := Lib.hid ⟨by simp, fun x => by
        constructor
        · intro h; cases h
        · rintro ⟨h1, h2⟩
          exact absurd ((hmem x.nm).2 (by rw [h1]; rfl)) h2⟩
      have HKY : Hid (∀ x a, N x = some a → x.size ≤ maxLen) := Lib.hid (fun x a hx => sep_key hs5 3 rfl (by rw [hx]; rfl))
      clear M R0 H2 H3 hmem hs5 hrun HS cA
      generalize w5.alloc (.mapIter (some gF) clock #[] clock) = wo at HS0 ⊢
      generalize w5.heap.size = r1 at HS0 ⊢
      go_loopg [14] todo0.length (fun q v14 wl => ∃ (todo : List ByteArray) (seen : Array Nat) (c0 : Nat) (A14 : Option Addr) (c14 : Nat) (l : List Kp) (m : Nat), q = todo.length ∧ v14 = .slice A14 m c14 ∧ Hid (l.length = m) ∧ Hid (Rg Value.string es2 clock clock seen c0 todo) ∧ Hid ((l.map (·.nm)).Nodup ∧ ∀ x : Kp, x ∈ l ↔ (N x.nm = some x.dt ∧ x.nm ∉ todo)) ∧ m + todo.length = nF ∧ Sep w wl [fm gs ns D, oR A n c C, aR A7 k c7 es, .obj gF (.map es2 clock), .obj r1 (.mapIter (some gF) clock seen c0), kR A14 m c14 l])
      case atStart => exact ⟨todo0, #[], clock, none, 0, [], 0, rfl, rfl, Lib.hid rfl, HR0, HI0, by omega, HS0.out⟩
      case round =>
        clear HS0 HR0 HI0 wo htl
        obtain ⟨todo, seen, c0, A14, c14, l, m, rfl, rfl, HLM, HRG, HI, hmt, hs⟩ := hrel
        have HS := Lib.hid hs
        clear hs
        rcases HS.out.rangeNext2 3 4 (by omega) rfl rfl HM.out kstr HRG.out 0 with ⟨rfl, hrun⟩ | ⟨x, a, w2, seen', todo', hx, hxa, hrun, hsz2, H2, R2, hen, hlen, hme⟩
        · have HKI : Hid (KeptIs (now D1 C1) (Srt.isort ltK m l)) := Lib.hid (by
            rw [HDC.out, HNN.out, ← HLM.out]
            exact kept_sort HI.out.1 fun x => by have h := HI.out.2 x; simpa using h)
          have HS2 : Hid (Sep w wr [aR A7 k c7 es, kR A14 m c14 (Srt.isort ltK 0 l)]) := Lib.hid (HS.out.pick [2, 5] (by decide) (by simp))
          clear HS HRG HM HI HKY
          go_wp2
          clear hrun
          go_loopg [153] m (fun g i wr => ∃ (a : Nat), a ≤ m ∧ g = m - a ∧ i = .int .i64 a ∧ Sep w wr [aR A7 k c7 es, kR A14 m c14 (Srt.isort ltK a l)])
          case atStart => exact ⟨0, Nat.zero_le _, rfl, rfl, HS2.out⟩
          case round =>
            clear HS2
            obtain ⟨a, ha, rfl, rfl, hs⟩ := hrel
            have HS := Lib.hid hs
            clear hs
            by_cases hlt : a < m
            · go_wp2
              go_loopg [18] a (fun g i wr => ∃ (cur : List Kp), g ≤ a ∧ i = .int .i64 (g : Int) ∧ cur.length = m ∧ Hid (Srt.sink ltK g cur = Srt.isort ltK (a + 1) l) ∧ Sep w wr [aR A7 k c7 es, kR A14 m c14 cur])
              case atStart => exact ⟨Srt.isort ltK a l, Nat.le_refl _, rfl, by rw [Srt.isort_len, HLM.out], Lib.hid rfl, HS.out⟩
              case round =>
                clear HS
                obtain ⟨cur, hg, rfl, hcl, HK, hs⟩ := hrel
                have HS := Lib.hid hs
                have HCL := Lib.hid hcl
                clear hs hcl
                rcases Nat.eq_zero_or_pos gk with h0 | hpos
                · subst h0
                  go_wp2
                  go_quiet (fail)
                  go_wp2
                  generalize hxw : World.drewN wr _ = xw
                  have xh : Below wr.heap.size wr xw := by rw [← hxw]; exact below_drewN (Below.refl _ _) _
                  clear hxw
                  go_roundg (m - (a + 1))
                  case measure => omega
                  case rel => exact ⟨a + 1, by omega, rfl, by go_num, by rw [← HK.out]; exact HS.out.later xh⟩
                · obtain ⟨p, hm⟩ : ∃ p, p + 1 = gk := ⟨gk - 1, by omega⟩
                  have hcl := HCL.out
                  obtain ⟨x, hx⟩ : ∃ x, cur[p + 1]? = some x := ⟨_, List.getElem?_eq_getElem (by omega)⟩
                  obtain ⟨y, hy⟩ : ∃ y, cur[p]? = some y := ⟨_, List.getElem?_eq_getElem (by omega)⟩
                  obtain ⟨lb, hlb⟩ : ∃ lb, ltN x.nm y.nm = lb := ⟨_, rfl⟩
                  have hK : Srt.sink ltK (p + 1) cur = Srt.isort ltK (a + 1) l := by rw [hm]; exact HK.out
                  have hgo : ltK x y = true → Srt.sink ltK p ((cur.set (p + 1) y).set p x) = Srt.isort ltK (a + 1) l := fun h => (Srt.sink_go ltK hx hy h).symm.trans hK
                  have hstop : ltK x y = false → cur = Srt.isort ltK (a + 1) l := fun h => (Srt.sink_stop ltK hx hy h).symm.trans hK
                  rw [hm] at hx hgo
                  clear hK
                  have HGO := Lib.hid hgo
                  have HSTOP := Lib.hid hstop
                  obtain ⟨p0, p1⟩ := Kp.rowCells hx
                  obtain ⟨q0, q1⟩ := Kp.rowCells hy
                  obtain ⟨g6, rfl, hg6, hat⟩ := HS.out.rowAt 1 rfl (by omega)
                  have d0 := (hat _).1 _ p0
                  have e0 := (hat _).1 _ q0
                  have i0 : (0 : Int) ≤ (p : Int) := by omega
                  have i1 : (p : Int) < (m : Int) := by omega
                  have i2 : decide (0 < gk) = true := decide_eq_true hpos
                  have i3 : (gk : Int) - 1 = (p : Int) := by omega
                  have i4 : (gk : Int) < (m : Int) := by omega
                  have hmg : p < gk := by omega
                  have hma : p ≤ a := by omega
                  unfold ltN at hlb
                  clear hat hx hy hgo hstop
                  cases lb with
                  | true =>
                    have HKN : Hid (Srt.sink ltK p ((cur.set gk y).set p x) = Srt.isort ltK (a + 1) l) := Lib.hid (HGO.out hlb)
                    clear HGO HSTOP
                    go_wp2
                    go_quiet (fail)
                    go_wp2
                    clear d0 e0
                    generalize hxw : World.drewN wr _ = xw
                    have xh : Below wr.heap.size wr xw := by rw [← hxw]; exact below_drewN (Below.refl _ _) _
                    clear hxw
                    have HSx := Lib.hid (HS.out.later xh)
                    obtain ⟨g', hg', _, hat⟩ := HSx.out.rowAt 1 rfl (by omega)
                    cases hg'
                    have d0 := (hat _).1 _ p0
                    have d1 := (hat _).1 _ p1
                    have e0 := (hat _).1 _ q0
                    have e1 := (hat _).1 _ q1
                    have u0 := (hat (gk * 2)).2.1
                    have u1 := (hat (gk * 2 + 1)).2.1
                    have u3 := (hat (p * 2)).2.1
                    have u4 := (hat (p * 2 + 1)).2.1
                    have K := Lib.hid ((HSx.out.elem Kp.len 1 rfl gk (by omega) (by omega) y).elem Kp.len 1 rfl p (by simp; omega) (by omega) x)
                    clear hat HS HSx p0 p1 q0 q1 hcl xh hm hlb
                    go_region
                    all_goals
                      go_wp2
                      go_roundg p
                      case measure => exact hmg
                      case rel => exact ⟨(cur.set gk y).set p x, hma, rfl, by simp [HCL.out], HKN, K.out.drew⟩
                  | false =>
                    have HKN : Hid (cur = Srt.isort ltK (a + 1) l) := Lib.hid (HSTOP.out hlb)
                    clear HGO HSTOP p0 p1 q0 q1 hcl hm
                    go_wp2
                    go_quiet (fail)
                    go_wp2
                    generalize hxw : World.drewN wr _ = xw
                    have xh : Below wr.heap.size wr xw := by rw [← hxw]; exact below_drewN (Below.refl _ _) _
                    clear hxw
                    go_roundg (m - (a + 1))
                    case measure => omega
                    case rel => exact ⟨a + 1, by omega, rfl, by go_num, by rw [← HKN.out]; exact HS.out.later xh⟩
            · obtain rfl : a = m := by omega
              have HFIN : Hid (Sep w wr [aR A7 k c7 an, kR A14 a c14 (Srt.isort ltK a l)]) := Lib.hid (by rw [HAN.out]; exact HS.out)
              have HLF : Hid ((Srt.isort ltK a l).length = a) := Lib.hid (by rw [Srt.isort_len, HLM.out])
              clear HS
              go_wp2
              refine bodyPost_ret (v := .tuple #[.slice A7 k c7, .slice A14 a c14]) (by simp [results, Tryz.results21]) rfl ?_
              exact ⟨A7, c7, A14, a, c14, _, rfl, HLF, HKI, hkc, by omega, HFIN.out⟩
        · have hnew := Lib.hid (Rd.of_own (own_new w2 56 #[.string x, .string a] 2 1 rfl (by simp [maxLen]) (Nat.le_refl _)))
          have HS3 := Lib.hid H2
          have HR3 := Lib.hid R2
          have HI3 : Hid (((l ++ [(⟨x, a⟩ : Kp)]).map (·.nm)).Nodup ∧ ∀ y : Kp, y ∈ l ++ [(⟨x, a⟩ : Kp)] ↔ (N y.nm = some y.dt ∧ y.nm ∉ todo')) := Lib.hid (by
            obtain ⟨h1, h2⟩ := HI.out
            refine ⟨?_, fun y => ?_⟩
            · rw [List.map_append, List.nodup_append]
              refine ⟨h1, by simp, fun u hu v hv => ?_⟩
              simp only [List.map_cons, List.map_nil, List.mem_singleton] at hv
              subst hv
              obtain ⟨z, hz, rfl⟩ := List.mem_map.1 hu
              intro e
              exact ((h2 z).1 hz).2 (by rw [e]; exact hx)
            · rw [List.mem_append, List.mem_singleton, h2]
              constructor
              · rintro (⟨h3, h4⟩ | rfl)
                · exact ⟨h3, fun h5 => h4 ((hme _).1 h5).2⟩
                · exact ⟨hxa, fun h5 => ((hme _).1 h5).1 rfl⟩
              · rintro ⟨h3, h4⟩
                by_cases e : y.nm = x
                · right
                  rw [e, hxa] at h3
                  cases y
                  simp only at e h3
                  cases h3
                  rw [e]
                · left
                  exact ⟨h3, fun h5 => h4 ((hme _).2 ⟨e, h5⟩)⟩)
          have HLM2 : Hid ((l ++ [(⟨x, a⟩ : Kp)]).length = m + 1) := Lib.hid (by rw [List.length_append, HLM.out]; rfl)
          clear HS H2 R2 hsz2 hx hxa hme HRG HI
          go_wp2_with (at_builtin; refine wpList_append_sep (HS3.out.alloc _) 5 rfl (.tmp 145) (.tmp 149) 33 rfl 56 tk (.agg #[.string ⟨#[]⟩, .string ⟨#[]⟩]) 2 32 Tryz.underlying33 htk k0 k1 k2 rfl (by omega) _ m _ rfl rfl _ _ 1 1 _ rfl hnew.out (by simp [Value.oneCell']) (by simp only [maxLen]; omega) (by omega) ?_; intro A6 c6 w6 hc6 hs6 H6'; have H6 := Lib.hid H6'; clear H6' hs6)
          go_roundg todo'.length
          case measure => omega
          case rel => exact ⟨todo', seen', clock, A6, c6, l ++ [⟨x, a⟩], m + 1, rfl, rfl, HLM2, HR3, HI3, by omega, by
            have h := H6.out
            unfold kR
            rw [List.flatMap_append]
            exact h⟩
end So
end Go.Proofs.YtccpkkopniadiaaGreatDoor
