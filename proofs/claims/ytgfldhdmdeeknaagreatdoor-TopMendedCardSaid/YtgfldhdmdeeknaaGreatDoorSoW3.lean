/-
  Walk of store.Play. Conditions: none beyond the theorem's own premises.
-/
import Derived.Test.YtgfldhdmdeeknaaGreatDoorSoW2
import Derived.Test.YtgfldhdmdeeknaaGreatDoorSoK
namespace Go.Proofs.YtgfldhdmdeeknaaGreatDoor
open Go.RowKit Go.Shelf
set_option linter.unusedVariables false
namespace So
open Dr

theorem ans_info : (Tryz.prog.info? 53).map (fun i => (i.zero, i.size, i.bytes)) = some (some (.agg #[.int .i64 0, .string ⟨#[]⟩]), 2, 24) := by kernel_rfl
theorem kept_info : (Tryz.prog.info? 59).map (fun i => (i.zero, i.size, i.bytes)) = some (some (.agg #[.string ⟨#[]⟩, .string ⟨#[]⟩]), 2, 32) := by kernel_rfl
theorem way_sz {D D' : Fs} {C C' : List Op} {o : Op} {a : An} (hw : Way D C o a D' C') (hC : ∀ x ∈ C, x.nm.size ≤ maxLen) (ho : o.nm.size ≤ maxLen) : ∀ x ∈ C', x.nm.size ≤ maxLen := by
  have h1 : ∀ x ∈ C ++ [o], x.nm.size ≤ maxLen := fun x hx => by
    rcases List.mem_append.1 hx with h | h
    · exact hC x h
    · rw [List.mem_singleton.1 h]; exact ho
  cases hw <;> first | exact hC | exact h1 | (intro x hx; cases hx)
theorem sep_key {w0 w : World} {L : List It} (H : Sep w0 w L) (i : Nat) {g n : Nat} {h : Fs} (hi : L[i]? = some (fm g n h)) {x : ByteArray} (hx : (h x).isSome = true) : x.size ≤ maxLen := by
  obtain ⟨es, clock, hb, M⟩ := H.all i _ hi
  obtain ⟨a, ha⟩ := Option.isSome_iff_exists.1 hx
  obtain ⟨e, m1, k1, _⟩ := M.full x a ha
  obtain ⟨l, hl⟩ := M.fit.keys e m1
  obtain ⟨y, hy, _, hle⟩ := Maps.keyOf_str Tryz.underlying9 hl
  rw [k1] at hy
  have := Value.string.inj hy
  subst this
  simpa [ByteArray.size] using hle
abbrev aR (A : Option Addr) (n c : Nat) (l : List An) : It := .row 53 2 (.slice A n c) n (l.flatMap An.cells)
abbrev kR (A : Option Addr) (n c : Nat) (l : List Kp) : It := .row 59 2 (.slice A n c) n (l.flatMap Kp.cells)
def PlayRet (w : World) (n : Nat) (an : List An) (h : Fs) (e : Ending) (w' : World) : Prop :=
  ∃ A1 c1 A2 m c2 ks, e = .returned (.tuple #[.slice A1 n c1, .slice A2 m c2]) ∧ Hid (ks.length = m) ∧ Hid (KeptIs h ks) ∧ n ≤ c1 ∧ m ≤ 2932031007403 ∧ Sep w w' [aR A1 n c1 an, kR A2 m c2 ks]

set_option maxRecDepth 100000 in
set_option maxHeartbeats 3200000 in
theorem play_any (Ad : Option Addr) (n c : Nat) (ops : List Op) (an : List An) (D1 : Fs) (C1 : List Op) (w : World) (hr : Rd w w.heap.size 4 Ad n (ops.flatMap Op.cells)) (hl : ops.length = n) (hn : n ≤ 2932031007317) (hp : Plays mno [] ops an D1 C1)
    (hwf : ∀ o ∈ ops, o.nm.size ≤ maxLen ∧ o.dt.size ≤ maxLen) :
    Calls Tryz.prog 17 #[.slice Ad n c] w (PlayRet w n an (now D1 C1)) := by
  obtain ⟨ti, hti, t0, t1, t2⟩ := info_parts ans_info
  obtain ⟨tj, htj, j0, j1, j2⟩ := info_parts kept_info
  have hmm := @run_makeMap Tryz.prog
  have HR := Lib.hid hr
  have HL := Lib.hid hl
  have HW := Lib.hid hwf
  have HF : Hid (∃ es', Plays mno [] (ops.drop 0) es' D1 C1 ∧ an = [] ++ es') := Lib.hid ⟨an, hp, rfl⟩
  have S1 : Hid (Sep w (((w.alloc (.map #[] 0)).alloc (.map #[] 0)).alloc (.cells #[.map (some w.heap.size), .map (some (w.heap.size + 1)), .slice none 0 0] 69)) [sC (w.heap.size + 2) w.heap.size (w.heap.size + 1) none 0 0, fm w.heap.size 0 mno, fm (w.heap.size + 1) 0 mno, oR none 0 0 [], aR none 0 0 []]) := Lib.hid (by
    have h1 := ((Sep.nil_ w).newMap Tryz.prog 9 (Value.string) (Value.string)).newMap Tryz.prog 9 Value.string Value.string
    have h2 := ((h1.new 69 [.map (some w.heap.size), .map (some (w.heap.size + 1)), .slice none 0 0]).nilRow 56 4 none).nilRow 53 2 none
    have e1 : (w.alloc (.map #[] 0)).heap.size = w.heap.size + 1 := by simp
    have e2 : ((w.alloc (.map #[] 0)).alloc (.map #[] 0)).heap.size = w.heap.size + 2 := by simp
    rw [e1, e2] at h2
    exact h2.pick [2, 0, 1, 3, 4] (by decide) (by simp))
  have hS1 : Hid (St w (((w.alloc (.map #[] 0)).alloc (.map #[] 0)).alloc (.cells #[.map (some w.heap.size), .map (some (w.heap.size + 1)), .slice none 0 0] 69)) (w.heap.size + 2) 0 mno [] [aR none 0 0 []]) := Lib.hid ⟨_, _, 0, 0, none, 0, 0, rfl, Nat.le_refl _, Nat.le_refl _, S1.out⟩
  clear hr hl hp hwf S1
  go_enter Tryz.func17, Tryz.ntmps17
  go_wp2
  clear hmm
  generalize ((w.alloc (.map #[] 0)).alloc (.map #[] 0)).alloc (.cells #[.map (some w.heap.size), .map (some (w.heap.size + 1)), .slice none 0 0] 69) = w1 at hS1 ⊢
  generalize w.heap.size + 2 = gS at hS1 ⊢
  go_loopg [5, 17] n (fun q v5 i wr => ∃ (k : Nat) (A5 : Option Addr) (c5 : Nat) (D : Fs) (C : List Op) (es : List An), k ≤ n ∧ q = n - k ∧ i = .int .i64 (k : Int) ∧ v5 = .slice A5 k c5 ∧ Hid (es.length = k) ∧ Hid (∀ x ∈ C, x.nm.size ≤ maxLen) ∧
    Hid (∃ es', Plays D C (ops.drop k) es' D1 C1 ∧ an = es ++ es') ∧ St w wr gS k D C [aR A5 k c5 es])
  case atStart => exact ⟨0, none, 0, mno, [], [], Nat.zero_le _, rfl, rfl, rfl, Lib.hid rfl, Lib.hid (by simp), HF, hS1.out⟩
  case round =>
    clear HF hS1
    obtain ⟨k, A5, c5, D, C, es, hk, rfl, rfl, rfl, HEL, HCS, HF, hs⟩ := hrel
    have HS := Lib.hid hs
    clear hs
    by_cases hlt : k < n
    · obtain ⟨b, off, rfl, hb, hc⟩ := HR.out.at_ Op.len (by omega)
      obtain ⟨o, ho⟩ : ∃ o, ops[k]? = some o := ⟨_, List.getElem?_eq_getElem (by rw [HL.out]; exact hlt)⟩
      have hbel : Below w.heap.size w wr := by obtain ⟨_, _, _, _, _, _, _, _, _, _, H⟩ := HS.out; exact H.below
      have q0 : wr.cell? ⟨b, off + k * 4, none⟩ = some (.int .i64 o.kind) := (hbel.cell hb).trans (hc k 0 o _ ho rfl)
      have q1 : wr.cell? ⟨b, off + k * 4 + 1, none⟩ = some (.string o.nm) := (hbel.cell hb).trans (hc k 1 o _ ho rfl)
      have q2 : wr.cell? ⟨b, off + k * 4 + 2, none⟩ = some (.string o.dt) := (hbel.cell hb).trans (hc k 2 o _ ho rfl)
      have q3 : wr.cell? ⟨b, off + k * 4 + 3, none⟩ = some (.int .i64 o.keep) := (hbel.cell hb).trans (hc k 3 o _ ho rfl)
      have i0 : (0 : Int) ≤ (k : Int) := by omega
      have i1 : (k : Int) < (n : Int) := by omega
      have HWF := Lib.hid (HW.out o (List.mem_of_getElem? ho))
      obtain ⟨er, dd, D2, C2, es1, HWAY, HP2, HAS⟩ : ∃ er dd D2 C2 es1, Hid (Way D C o ⟨er, dd⟩ D2 C2) ∧ Hid (Plays D2 C2 (ops.drop (k + 1)) es1 D1 C1) ∧ Hid (an = (es ++ [⟨er, dd⟩]) ++ es1) := by
        obtain ⟨es', h1, h2⟩ := HF.out
        obtain ⟨⟨er, dd⟩, as', D2, C2, rfl, hw, ht⟩ := plays_next h1 ho
        exact ⟨_, _, _, _, _, Lib.hid hw, Lib.hid ht, Lib.hid (by rw [h2]; simp)⟩
      have HEL2 : Hid ((es ++ [(⟨er, dd⟩ : An)]).length = k + 1) := Lib.hid (by rw [List.length_append, HEL.out]; rfl)
      have HCS2 : Hid (∀ x ∈ C2, x.nm.size ≤ maxLen) := Lib.hid (way_sz HWAY.out HCS.out HWF.out.1)
      clear hc ho HF hbel
      go_upto_region 6 with (fail)
      have HS2 : Hid (St w (wr.alloc (.cells #[.int .i64 o.kind, .string o.nm, .string o.dt, .int .i64 o.keep] 56)) gS k D C [aR A5 k c5 es] ∧ Blk (wr.alloc (.cells #[.int .i64 o.kind, .string o.nm, .string o.dt, .int .i64 o.keep] 56)) wr.heap.size 56 o.cells) := Lib.hid ⟨by
          obtain ⟨gn, gd, nn, nd, A, m, c', h1, h2, h3, H⟩ := HS.out
          exact ⟨gn, gd, nn, nd, A, m, c', h1, h2, h3, H.alloc _⟩, Blk.new wr _ _⟩
      clear HS q0 q1 q2 q3
      generalize wr.alloc (.cells #[.int .i64 o.kind, .string o.nm, .string o.dt, .int .i64 o.keep] 56) = wo at HS2 ⊢
      generalize wr.heap.size = gx at HS2 ⊢
      have p0 := HS2.out.2.cell (k := 0) rfl
      have p1 := HS2.out.2.cell (k := 1) rfl
      have p2 := HS2.out.2.cell (k := 2) rfl
      have p3 := HS2.out.2.cell (k := 3) rfl
      have cD := Lib.hid (do_any w wo gS k D C [aR A5 k c5 es] o er dd D2 C2 HS2.out.1 HWAY.out HWF.out.1 HCS.out (by have := HWF.out.2; unfold maxLen at this; omega) (by omega))
      go_wp2_with fail
      refine cD.out.mono ?_; rintro en w1 ⟨rfl, gn, gd, nn, nd, A, m, c', h1, h2, h3, H⟩
      have HST := Lib.hid (And.intro h1 (And.intro h2 h3))
      have HH := Lib.hid H
      have hnew := Lib.hid (Rd.of_own (own_new w1 53 #[.int .i64 er, .string dd] 2 1 rfl (by simp [maxLen]) (Nat.le_refl _)))
      clear H h1 h2 h3 cD p0 p1 p2 p3 HS2
      go_wp2_with (at_builtin; refine wpList_append_sep (HH.out.alloc _) 4 rfl (.tmp 21) (.tmp 25) 48 rfl 53 ti (.agg #[.int .i64 0, .string ⟨#[]⟩]) 2 24 Tryz.underlying48 hti t0 t1 t2 rfl (by omega) _ k _ rfl rfl _ _ 1 1 _ rfl hnew.out (by simp [Value.oneCell']) (by simp only [maxLen]; omega) (by omega) ?_; intro A6 c6 w6 hc6 hs6 H6'; have H6 := Lib.hid H6'; clear H6' hs6)
      go_roundg (n - (k + 1))
      case measure => omega
      case rel => exact ⟨k + 1, A6, c6, D2, C2, es ++ [⟨er, dd⟩], by omega, rfl, by go_num, rfl, HEL2, HCS2, Lib.hid ⟨es1, HP2.out, HAS.out⟩, gn, gd, nn, nd, A, m, c', HST.out.1, HST.out.2.1, HST.out.2.2, by
        have h := H6.out
        unfold aR
        rw [List.flatMap_append]
        exact h⟩
    · obtain rfl : k = n := by omega
      obtain ⟨es', h1, h2⟩ := HF.out
      obtain ⟨rfl, hD, hC⟩ := plays_end h1 (by rw [HL.out]; exact Nat.le_refl _)
      rw [List.append_nil] at h2
      have HAN := Lib.hid h2
      have HDC : Hid (now D1 C1 = now D C) := Lib.hid (by rw [hD, hC])
      clear h1 h2 hD hC HF
      obtain ⟨gn, gd, m, nd, A, n2, c', h1, h2, h3, H⟩ := HS.out
      have HS2 := Lib.hid H
      have h5 := (H.rowHas 4 rfl).slice
      have hkc : k ≤ c5 := by
        obtain ⟨A', c', e, h⟩ := h5
        cases e
        exact h
      have c0 := H.cell 0 rfl (k := 0) rfl
      clear H h1 h3 HS h5 hlt
      obtain ⟨N, hN⟩ : ∃ N, now D C = N := ⟨_, rfl⟩
      rw [hN] at HS2 HDC
      clear hN
      have cK := Lib.hid (keys_any gn wr)
      have cS := Lib.hid (sorted_any w wr _ 1 gn m N HS2.out rfl (by omega))
      go_wp2_with fail
      refine cK.out.mono ?_; rintro en w3 ⟨rfl, rfl⟩
      go_wp2_with fail
      refine cS.out.mono ?_; rintro en w4 ⟨AS, cs, S, rfl, HSS, hs4⟩
      have HS4 : Hid (Sep w w4 ([sC gS gn gd A n2 c', fm gn m N, fm gd nd D, aR A5 k c5 an, .row 9 1 (.slice AS m cs) m (S.flatMap kc), kR none 0 0 []])) := Lib.hid (by
        rw [HAN.out]
        exact (hs4.nilRow 59 2 none).pick [0, 1, 2, 4, 5, 6] (by decide) (by simp))
      have HRS := Lib.hid (hs4.rd 5 rfl)
      have HB4 := Lib.hid hs4.below
      clear hs4 cK cS c0 HS2
      go_wp2
      obtain ⟨F, hF⟩ : ∃ F : ByteArray → Kp, F = fun x => ⟨x, (N x).getD ⟨#[]⟩⟩ := ⟨_, rfl⟩
      have HFF := Lib.hid hF
      clear hF
      go_loopg [8, 35] m (fun q v8 i wl => ∃ (j : Nat) (A8 : Option Addr) (c8 : Nat), j ≤ m ∧ q = m - j ∧ i = .int .i64 (j : Int) ∧ v8 = .slice A8 j c8 ∧ Sep w wl [sC gS gn gd A n2 c', fm gn m N, fm gd nd D, aR A5 k c5 an, .row 9 1 (.slice AS m cs) m (S.flatMap kc), kR A8 j c8 ((S.take j).map F)])
      case atStart => exact ⟨0, none, 0, Nat.zero_le _, rfl, rfl, rfl, HS4.out⟩
      case round =>
        clear HS4 HRS HB4
        obtain ⟨j, A8, c8, hj, rfl, rfl, rfl, hs⟩ := hrel
        have HS := Lib.hid hs
        clear hs
        by_cases hlt : j < m
        · obtain ⟨b, off, rfl, hb, hc⟩ := (HS.out.rd 4 rfl).at_ kc_len (by omega)
          obtain ⟨x, hx⟩ : ∃ x, S[j]? = some x := ⟨_, List.getElem?_eq_getElem (by rw [HSS.out.1]; exact hlt)⟩
          have q0 : wr.cell? ⟨b, off + j, none⟩ = some (.string x) := by simpa using hc j 0 x _ hx rfl
          have hxs : (N x).isSome = true := (HSS.out.2.2 x).1 (List.mem_of_getElem? hx)
          obtain ⟨a, ha⟩ := Option.isSome_iff_exists.1 hxs
          have c0 := HS.out.cell 0 rfl (k := 0) rfl
          have l1 := HS.out.look 1 rfl kstr (sep_key HS.out 1 rfl hxs) Tryz.underlying67 (sz wr)
          rw [ha] at l1
          simp only [Option.elim] at l1
          have HFX : Hid (F x = ⟨x, a⟩) := Lib.hid (by rw [HFF.out]; simp [ha])
          have HTK : Hid ((S.take (j + 1)).map F = (S.take j).map F ++ [⟨x, a⟩]) := Lib.hid (by rw [List.take_add_one, hx, List.map_append, ← HFX.out]; rfl)
          have i0 : (0 : Int) ≤ (j : Int) := by omega
          have i1 : (j : Int) < (m : Int) := by omega
          have hnew := Lib.hid (Rd.of_own (own_new wr 59 #[.string x, .string a] 2 1 rfl (by simp [maxLen]) (Nat.le_refl _)))
          clear hc hx hxs ha
          go_wp2_with (at_builtin; refine wpList_append_sep (HS.out.alloc _) 5 rfl (.tmp 39) (.tmp 48) 49 rfl 59 tj (.agg #[.string ⟨#[]⟩, .string ⟨#[]⟩]) 2 32 Tryz.underlying49 htj j0 j1 j2 rfl (by omega) _ j _ rfl rfl _ _ 1 1 _ rfl hnew.out (by simp [Value.oneCell']) (by simp only [maxLen]; omega) (by omega) ?_; intro A6 c6 w6 hc6 hs6 H6'; have H6 := Lib.hid H6'; clear H6' hs6)
          go_roundg (m - (j + 1))
          case measure => omega
          case rel => exact ⟨j + 1, A6, c6, by omega, rfl, by go_num, rfl, by
            have h := H6.out
            unfold kR
            rw [HTK.out, List.flatMap_append]
            exact h⟩
        · obtain rfl : j = m := by omega
          have HK : Hid (KeptIs (now D1 C1) (S.map F)) := Lib.hid (by rw [HDC.out, HFF.out]; exact kept_names HSS.out.2.1 HSS.out.2.2)
          have HTK : Hid (S.take j = S) := Lib.hid (List.take_of_length_le (by rw [HSS.out.1]; exact Nat.le_refl _))
          have hfin := HS.out.pick [3, 5] (by decide) (by simp)
          rw [HTK.out] at hfin
          have HFIN := Lib.hid hfin
          clear hfin HS
          go_wp2
          refine bodyPost_ret (v := .tuple #[.slice A5 k c5, .slice A8 j c8]) (by simp [results, Tryz.results17]) rfl ?_
          exact ⟨A5, c5, A8, j, c8, S.map F, rfl, Lib.hid (by rw [List.length_map, HSS.out.1]), HK, hkc, by omega, HFIN.out⟩
end So
end Go.Proofs.YtgfldhdmdeeknaaGreatDoor
