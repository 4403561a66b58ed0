/-
  Walks of package tree: move, where paths move. Conditions: none beyond each theorem's own premises.
-/
import Derived.Test.YtgidkaidljiddaaDoorTrW4
namespace Go.Proofs.YtgidkaidljiddaaDoor
open Go.RowKit Go.Shelf
set_option linter.unusedVariables false
namespace Tr
open Dr Pt

theorem atL {L : List It} {Y : It} : (L ++ [Y])[L.length]? = some Y := by simp
theorem setL {L : List It} {i : Nat} {X Y : It} : (L.set i X ++ [Y])[L.length]? = some Y := by
  rw [List.getElem?_append_right (by simp)]
  simp
theorem setI {L : List It} {i : Nat} {X Y Z : It} (h : L[i]? = some Z) : (L.set i X ++ [Y])[i]? = some X := atI (getSet_self' h)
theorem setS {L : List It} {i : Nat} {X Y X' Z : It} (h : L[i]? = some Z) : (L.set i X ++ [Y]).set i X' = L.set i X' ++ [Y] := by
  rw [List.set_append_left _ _ (by rw [List.length_set]; exact (List.getElem?_eq_some_iff.1 h).1), List.set_set]

set_option maxRecDepth 100000 in
set_option maxHeartbeats 3200000 in
theorem move_go (w0 w : World) (L : List It) (i g n : Nat) (h : ByteArray → Option Value) (G : Nat → Nat) (F : Nat → Bool) (nn : Nat) (H : Tree) (p q : List By) (a0 K : Nat)
    (hS : Sep w0 w L) (hi : L[i]? = some (tm g n h)) (T : Tab H (nv G) h) (I : TI H F nn) (hN : ∀ a, a < nn → ∃ j : Nat, L[j]? = some (nC G F a)) (hp : Cl p) (hq : Cl q) (hs : (ppath p).length ≤ 1048577) (hs' : (ppath q).length ≤ 1048577)
    (hn : n ≤ 5864062014805) (hK : ∀ m a, H m = some a → (ppath m).length ≤ K) (hKb : K ≤ 9223372036850000000) (ha0 : H p = some a0) (h0 : p ≠ []) (h1 : q ≠ p) (h2 : ¬ p <+: q) (hf : Fr H F q 0) :
    Calls Tryd.prog 20 #[.map (some g), .string (P p), .string (P q)] w (fun e w' => e = .returned (.int .i64 0) ∧ ∃ n' h', n' ≤ n ∧ Tab (mv H p q) (nv G) h' ∧ Sep w0 w' (L.set i (tm g n' h'))) := by
  obtain ⟨ti, hti, t0, t1, t2⟩ := info_parts string_info
  have z1 := P_notroot hp h0
  have z2 := P_ne hp hq h1
  have c1 := Lib.hid (within_P hp hq hs hs' false (by simp [h2]) w)
  have c2 := Lib.hid (fun (W : World) (hB : Below w.heap.size w W) => fresh_any w0 W L i g n h G F nn H q 0 (hS.later hB) hi T I hN hf hq hs')
  have c3 := Lib.hid (fun (W : World) (hB : Below w.heap.size w W) => below_any w0 W L i g n h G H p (hS.later hB) hi T I.clean hp hs hn)
  have hq0 : H q = none := (fr_zero hf).1
  have hq00 : q ≠ [] := fun e => by obtain ⟨r, hr, _⟩ := I.root; rw [e, hr] at hq0; cases hq0
  have hqp : ¬ q <+: p := fun ⟨t, ht⟩ => by
    have := no_ext I t.length t q rfl hq0
    rw [ht, ha0] at this
    cases this
  have HI := Lib.hid hi
  have HT := Lib.hid T
  have HTI := Lib.hid I
  have HPQ : Hid (p ≠ [] ∧ q ≠ [] ∧ ¬ p <+: q ∧ ¬ q <+: p ∧ H q = none ∧ H p = some a0 ∧ Cl p ∧ Cl q) := Lib.hid ⟨h0, hq00, h2, hqp, hq0, ha0, hp, hq⟩
  have HK := Lib.hid hK
  clear hS hi T I hN h1 h2 hf hq0 hqp hK ha0 h0 hq00 hp hq
  go_enter Tryd.func20, Tryd.ntmps20
  go_wp2_with fail
  refine c1.out.mono ?_; rintro en w1 ⟨rfl, hB⟩
  have HB := Lib.hid hB
  clear hB
  go_wp2_with fail
  refine (c2.out w1 HB.out).mono ?_; rintro en w2 ⟨rfl, hB2⟩
  have HB2 := Lib.hid (HB.out.trans (hB2.mono HB.out.size))
  clear hB2
  go_wp2_with fail
  refine (c3.out w2 HB2.out).mono ?_; rintro en w3 ⟨A, m, c, ts, rfl, hm, hmn, hco, hs3⟩
  have HS3 := Lib.hid hs3
  have HCO := Lib.hid hco
  have HML := Lib.hid hm
  clear hs3 hco hm
  have hnew := Rd.of_own (own_new w3 9 #[.string (P p)] 1 1 rfl (by simp [maxLen]) (Nat.le_refl _))
  go_wp2_with (at_builtin; refine wpList_append_sep (HS3.out.alloc _) L.length rfl (.tmp 29) (.tmp 31) 42 rfl 9 ti (.string ⟨#[]⟩) 1 16 Tryd.underlying42 hti t0 t1 t2 rfl (by omega) _ m _ rfl atL _ _ 1 1 _ rfl hnew (by simp [Value.oneCell']) (by simp only [maxLen]; omega) (by omega) ?_; intro A4 c4 w4 hc4 hsz4 hs4; have HS4 := Lib.hid hs4; clear hs4 hsz4)
  obtain ⟨m1, hm1⟩ : ∃ m1, m + 1 = m1 := ⟨_, rfl⟩
  obtain ⟨ts1, hts1⟩ : ∃ ts1, ts ++ [[]] = ts1 := ⟨_, rfl⟩
  have em : (m : Int) + 1 = (m1 : Int) := by omega
  have HS5 : Hid (Sep w0 w4 (L.set i (tm g n h) ++ [sR p A4 m1 c4 ts1])) := Lib.hid (by
    have h := HS4.out
    rw [hm1] at h
    rw [set_self' HI.out, ← hts1]
    have e : (ts ++ [[]]).flatMap (sk p) = ts.flatMap (sk p) ++ [.string (P p)] := by rw [List.flatMap_append]; simp [sk]
    unfold sR
    rw [e]
    simpa using h)
  have HTS : Hid (ts1.length = m1 ∧ ts1.Nodup ∧ ∀ t, t ∈ ts1 ↔ (H (p ++ t)).isSome = true) := Lib.hid (by
    have hc := HCO.out
    refine ⟨by rw [← hts1, List.length_append, HML.out]; exact hm1, ?_, fun t => ?_⟩
    · rw [← hts1]
      refine List.nodup_append.2 ⟨hc.1, by simp, fun x hx y hy => ?_⟩
      rw [List.mem_singleton.1 hy]
      exact ((hc.2 x).1 hx).1
    · rw [← hts1, List.mem_append, List.mem_singleton, hc.2 t]
      by_cases ht : t = []
      · subst ht
        simp [HPQ.out.2.2.2.2.2.1]
      · simp [ht])
  have HMN : Hid (m1 ≤ n + 1) := Lib.hid (by omega)
  rw [hm1, em]
  clear HS4 HCO HML hnew hmn hm1 hts1 em HS3 z1 z2 c1 c2 c3
  go_loopg [34] m1 (fun z v wl => ∃ (k n1 : Nat) (h1 : ByteArray → Option Value), k ≤ m1 ∧ z = m1 - k ∧ v = .int .i64 (k : Int) ∧ n1 ≤ n ∧ Hid (Tab (mvs H p q (ts1.take k)) (nv G) h1) ∧ Sep w0 wl (L.set i (tm g n1 h1) ++ [sR p A4 m1 c4 ts1]))
  case atStart => exact ⟨0, n, h, Nat.zero_le _, rfl, rfl, Nat.le_refl _, Lib.hid (by rw [List.take_zero, mvs_nil]; exact HT.out), HS5.out⟩
  case round =>
    clear HS5 HT
    obtain ⟨k, n1, h1, hk, rfl, rfl, hn1, HT, hs⟩ := hrel
    have HS := Lib.hid hs
    clear hs
    by_cases hlt : k < m1
    · obtain ⟨b, off, rfl, hb, hc⟩ := (HS.out.rd L.length setL).at_ (sk_len p) (by omega)
      obtain ⟨t, ht⟩ : ∃ t, ts1[k]? = some t := ⟨_, List.getElem?_eq_getElem (by rw [HTS.out.1]; exact hlt)⟩
      have q0 : wr.cell? ⟨b, off + k, none⟩ = some (.string (P (p ++ t))) := by simpa using hc k 0 t _ ht rfl
      obtain ⟨a, ha⟩ := Option.isSome_iff_exists.1 ((HTS.out.2.2 t).1 (List.mem_of_getElem? ht))
      have i0 : (0 : Int) ≤ (k : Int) := by omega
      have i1 : (k : Int) < (m1 : Int) := by omega
      have hpt : Cl (p ++ t) := HTI.out.clean _ _ ha
      have hqt : Cl (q ++ t) := cl_append.2 ⟨HPQ.out.2.2.2.2.2.2.2, (cl_append.1 hpt).2⟩
      have hnt : t ∉ ts1.take k := fun e => by
        obtain ⟨j, hj, he⟩ := List.getElem_of_mem e
        rw [List.length_take] at hj
        rw [List.getElem_take] at he
        have h2 := List.getElem?_eq_some_iff.1 ht
        obtain ⟨h3, h4⟩ := h2
        exact List.pairwise_iff_getElem.1 HTS.out.2.1 j k (by omega) h3 (by omega) (he.trans h4.symm)
      have hne : P (p ++ t) ≠ P (q ++ t) := fun e => ext_ne HPQ.out.2.2.1 HPQ.out.2.2.2.1 t t (P_inj hpt hqt e).symm
      have hat : mvs H p q (ts1.take k) (p ++ t) = some a := by
        unfold mvs
        rw [if_neg (fun ⟨s, _, e⟩ => ext_ne HPQ.out.2.2.1 HPQ.out.2.2.2.1 s t e.symm), if_neg (fun ⟨s, hs, e⟩ => hnt (by rw [List.append_cancel_left e]; exact hs))]
        exact ha
      have hlook : h1 (P (p ++ t)) = some (nv G a) := by rw [tab_look HT.out hpt, hat]; rfl
      obtain ⟨X, hX⟩ : ∃ X, X = kb ((ppath (p ++ t)).drop (ppath p).length) := ⟨_, rfl⟩
      have HE : Hid (P q ++ X = P (q ++ t)) := Lib.hid (by
        rw [hX]
        exact (bs_cat _ _).trans (congrArg kb (turn_text HPQ.out.1 HPQ.out.2.1)))
      have HSZ : Hid ((P (p ++ t)).size ≤ K ∧ X.size ≤ K) := Lib.hid ⟨HK.out _ _ ha, by
        rw [hX]
        have := HK.out _ _ ha
        show (List.drop _ _).length ≤ K
        rw [List.length_drop]
        omega⟩
      have HSL : Hid (∀ W, (Instr.slice 9 (.string (P (p ++ t))) (some (.int .i64 ((P p).size : Int))) none none).run Tryd.prog W = .ok (.string X) W) := Lib.hid (fun W => by
        rw [run_slice_string_from_if W 9 (P (p ++ t)) .i64 ((P p).size : Int) Tryd.underlying9]
        have h3 : (P p).size ≤ (P (p ++ t)).size := by
          show (ppath p).length ≤ (ppath (p ++ t)).length
          rw [ppath_ne HPQ.out.1, ppath_ne (show p ++ t ≠ [] by simp [HPQ.out.1]), slashed_append, List.length_append]
          exact Nat.le_add_right _ _
        rw [if_pos ⟨by omega, by omega⟩, Int.toNat_natCast, Pt.bs_ext (P (p ++ t)) ((ppath (p ++ t)).drop (ppath p).length) _ _ (by
          have e : (P (p ++ t)).data.toList = ppath (p ++ t) := by simp [P, kb]
          rw [e]
          show List.drop (ppath p).length (List.take (ppath (p ++ t)).length _) = _
          rw [List.take_length])]
        rw [hX]
        rfl)
      obtain ⟨LB, hLB⟩ : ∃ LB, L.set i (tm g n1 h1) ++ [sR p (some ⟨b, off, none⟩) m1 c4 ts1] = LB := ⟨_, rfl⟩
      have hLBi : LB[i]? = some (tm g n1 h1) := by rw [← hLB]; exact setI HI.out
      have k1 : (P (p ++ t)).size ≤ maxLen := by have := HSZ.out.1; simp only [maxLen]; omega
      have k2 : (P (q ++ t)).size ≤ maxLen := by
        have := HSZ.out.2
        rw [← HE.out, ByteArray.size_append]
        have : (P q).size ≤ 1048577 := hs'
        simp only [maxLen]
        omega
      have HLK : Hid (∀ W, Sep w0 W LB → (Instr.lookup 37 (.map (some g)) (.string (P (p ++ t))) false).run Tryd.prog W = .ok (.pointer (some ⟨G a, 0, none⟩)) W) := Lib.hid (fun W hW => by
        have h := hW.look i hLBi kstr k1 Tryd.underlying37 (szp W)
        rw [hlook] at h
        exact h)
      have HST : Hid (∀ W, Sep w0 W LB → ∃ (w5 : World) (n2 : Nat), n2 ≤ n1 + 1 ∧ (Instr.mapUpdate 37 (.map (some g)) (.string (P q ++ X)) (.pointer (some ⟨G a, 0, none⟩))).run Tryd.prog W = .ok () w5 ∧ Sep w0 w5 (LB.set i (tm g n2 (mup h1 (P (q ++ t)) (nv G a))))) := Lib.hid (fun W hW => by
        rw [HE.out]
        obtain ⟨w5, hr, _, K5⟩ := hW.store i hLBi kstr k2 Tryd.underlying37 (by simp only [maxLen]; omega) (nv G a)
        exact ⟨w5, _, by split <;> omega, hr, K5⟩)
      have HZ : Hid (¬ (9223372036854775807 < (P q).size + X.size)) := Lib.hid (by
        have := HSZ.out.2
        have : (P q).size ≤ 1048577 := hs'
        omega)
      rw [hLB] at HS
      have HLB := Lib.hid hLB
      have HLBI := Lib.hid hLBi
      have HLT := Lib.hid (show k + 1 ≤ m1 from hlt)
      have HK1 := Lib.hid k1
      have HNT := Lib.hid hnt
      have HHA := Lib.hid ha
      have HHT := Lib.hid ht
      have HHL := Lib.hid hlook
      have HAT := Lib.hid hat
      have HNE := Lib.hid hne
      have HPT := Lib.hid hpt
      have HQT := Lib.hid hqt
      clear hc hLB hLBi k1 k2 hne hpt hqt hnt hat hlook hX ht ha
      go_upto_region 13 with (fail)
      refine wp_region_inv0 (fun ac0 L ac w' => ∃ x38 x39 x40 x41 x42 x43 x44 x45 x46 x47, ac = turn ac0 [(38, x38), (39, x39), (40, x40), (41, x41), (42, x42), (43, x43), (44, x44), (45, x45), (46, x46), (47, x47)] ∧ (L 0 = true → x38 = .map (some g)) ∧ (L 1 = true → x39 = .string (P q)) ∧ (L 2 = true → x40 = .string (P (p ++ t))) ∧ (L 3 = true → x41 = .string (P p)) ∧ (L 4 = true → x42 = .int .i64 ((P p).size : Int)) ∧ (L 5 = true → x43 = .string X) ∧ (L 6 = true → x44 = .string (P q ++ X)) ∧ (L 7 = true → x45 = .map (some g)) ∧ (L 8 = true → x46 = .string (P (p ++ t))) ∧ (L 9 = true → x47 = .pointer (some ⟨G a, 0, none⟩)) ∧ (L 4 = true → L 3 = true) ∧ (L 5 = true → L 2 = true ∧ L 4 = true) ∧ (L 6 = true → L 1 = true ∧ L 5 = true) ∧ (L 9 = true → L 7 = true ∧ L 8 = true) ∧ (L 10 = true → L 0 = true ∧ L 1 = true ∧ L 2 = true ∧ L 3 = true ∧ L 4 = true ∧ L 5 = true ∧ L 6 = true ∧ L 7 = true ∧ L 8 = true ∧ L 9 = true) ∧ (if L 10 = true then (∃ n2, n2 ≤ n1 + 1 ∧ Sep w0 w' (LB.set i (tm g n2 (mup h1 (P (q ++ t)) (nv G a))))) else Sep w0 w' LB)) rfl (by kernel_rfl) ?_ ?_ ?_
      · simp only [turn, List.foldl_cons, List.foldl_nil, List.setIfInBounds_toArray, List.set_cons_succ, List.set_cons_zero]
        exact ⟨_, _, _, _, _, _, _, _, _, _, rfl, (fun h => absurd h (by decide)), (fun h => absurd h (by decide)), (fun h => absurd h (by decide)), (fun h => absurd h (by decide)), (fun h => absurd h (by decide)), (fun h => absurd h (by decide)), (fun h => absurd h (by decide)), (fun h => absurd h (by decide)), (fun h => absurd h (by decide)), (fun h => absurd h (by decide)), (fun h => absurd h (by decide)), (fun h => absurd h (by decide)), (fun h => absurd h (by decide)), (fun h => absurd h (by decide)), (fun h => absurd h (by decide)), by simpa using HS.out.drew⟩
      · rintro L ac w' i o ⟨x38, x39, x40, x41, x42, x43, x44, x45, x46, x47, ha, p0, p1, p2, p3, p4, p5, p6, p7, p8, p9, q4, q5, q6, q9, q10, hS⟩ ho hi he
        simp only [turn, List.foldl_cons, List.foldl_nil, List.setIfInBounds_toArray, List.set_cons_succ, List.set_cons_zero] at ha ⊢
        subst ha
        rcases i with _|_|_|_|_|_|_|_|_|_|_|i
        all_goals cases ho
        all_goals simp [Region.binds] at he
        · have h10 : L 10 = false := by cases hh : L 10 with | false => rfl | true => (have hq := q10 hh; simp [hi] at hq)
          refine wpOp_step rfl (fun K hK => ?_)
          go_simp
          exact hK _ _ ⟨_, _, _, _, _, _, _, _, _, _, rfl, (fun _ => rfl), (by first | exact p1 | exact fun _ => rfl), (by first | exact p2 | exact fun _ => rfl), (by first | exact p3 | exact fun _ => rfl), (by first | exact p4 | exact fun _ => rfl), (by first | exact p5 | exact fun _ => rfl), (by first | exact p6 | exact fun _ => rfl), (by first | exact p7 | exact fun _ => rfl), (by first | exact p8 | exact fun _ => rfl), (by first | exact p9 | exact fun _ => rfl), (by simpa using q4), (by simpa using q5), (by simpa using q6), (by simpa using q9), (by simp [h10]), (by simpa [h10] using hS)⟩
        · have h6 : L 6 = false := by cases hh : L 6 with | false => rfl | true => (have hq := q6 hh; simp [hi] at hq)
          have h10 : L 10 = false := by cases hh : L 10 with | false => rfl | true => (have hq := q10 hh; simp [hi] at hq)
          refine wpOp_step rfl (fun K hK => ?_)
          go_simp
          exact hK _ _ ⟨_, _, _, _, _, _, _, _, _, _, rfl, (by first | exact p0 | exact fun _ => rfl), (fun _ => rfl), (by first | exact p2 | exact fun _ => rfl), (by first | exact p3 | exact fun _ => rfl), (by first | exact p4 | exact fun _ => rfl), (by first | exact p5 | exact fun _ => rfl), (by simp [h6]), (by first | exact p7 | exact fun _ => rfl), (by first | exact p8 | exact fun _ => rfl), (by first | exact p9 | exact fun _ => rfl), (by simpa using q4), (by simpa using q5), (by simp [h6]), (by simpa using q9), (by simp [h10]), (by simpa [h6, h10] using hS)⟩
        · have h5 : L 5 = false := by cases hh : L 5 with | false => rfl | true => (have hq := q5 hh; simp [hi] at hq)
          have h10 : L 10 = false := by cases hh : L 10 with | false => rfl | true => (have hq := q10 hh; simp [hi] at hq)
          have h6 : L 6 = false := by cases hh : L 6 with | false => rfl | true => (have hq := q6 hh; simp [h5] at hq)
          refine wpOp_step rfl (fun K hK => ?_)
          go_simp
          exact hK _ _ ⟨_, _, _, _, _, _, _, _, _, _, rfl, (by first | exact p0 | exact fun _ => rfl), (by first | exact p1 | exact fun _ => rfl), (fun _ => rfl), (by first | exact p3 | exact fun _ => rfl), (by first | exact p4 | exact fun _ => rfl), (by simp [h5]), (by simp [h6]), (by first | exact p7 | exact fun _ => rfl), (by first | exact p8 | exact fun _ => rfl), (by first | exact p9 | exact fun _ => rfl), (by simpa using q4), (by simp [h5]), (by simp [h6]), (by simpa using q9), (by simp [h10]), (by simpa [h5, h10, h6] using hS)⟩
        · have h4 : L 4 = false := by cases hh : L 4 with | false => rfl | true => (have hq := q4 hh; simp [hi] at hq)
          have h10 : L 10 = false := by cases hh : L 10 with | false => rfl | true => (have hq := q10 hh; simp [hi] at hq)
          have h5 : L 5 = false := by cases hh : L 5 with | false => rfl | true => (have hq := q5 hh; simp [h4] at hq)
          have h6 : L 6 = false := by cases hh : L 6 with | false => rfl | true => (have hq := q6 hh; simp [h5] at hq)
          refine wpOp_step rfl (fun K hK => ?_)
          go_simp
          exact hK _ _ ⟨_, _, _, _, _, _, _, _, _, _, rfl, (by first | exact p0 | exact fun _ => rfl), (by first | exact p1 | exact fun _ => rfl), (by first | exact p2 | exact fun _ => rfl), (fun _ => rfl), (by simp [h4]), (by simp [h5]), (by simp [h6]), (by first | exact p7 | exact fun _ => rfl), (by first | exact p8 | exact fun _ => rfl), (by first | exact p9 | exact fun _ => rfl), (by simp [h4]), (by simp [h5]), (by simp [h6]), (by simpa using q9), (by simp [h10]), (by simpa [h4, h10, h5, h6] using hS)⟩
        · have h5 : L 5 = false := by cases hh : L 5 with | false => rfl | true => (have hq := q5 hh; simp [hi] at hq)
          have h10 : L 10 = false := by cases hh : L 10 with | false => rfl | true => (have hq := q10 hh; simp [hi] at hq)
          have h6 : L 6 = false := by cases hh : L 6 with | false => rfl | true => (have hq := q6 hh; simp [h5] at hq)
          obtain rfl := p3 (by simp [he])
          refine wpOp_step rfl (fun K hK => ?_)
          go_simp
          exact hK _ _ ⟨_, _, _, _, _, _, _, _, _, _, rfl, (by first | exact p0 | exact fun _ => rfl), (by first | exact p1 | exact fun _ => rfl), (by first | exact p2 | exact fun _ => rfl), (by first | exact p3 | exact fun _ => rfl), (fun _ => rfl), (by simp [h5]), (by simp [h6]), (by first | exact p7 | exact fun _ => rfl), (by first | exact p8 | exact fun _ => rfl), (by first | exact p9 | exact fun _ => rfl), (by simp [he]), (by simp [h5]), (by simp [h6]), (by simpa using q9), (by simp [h10]), (by simpa [h5, h10, h6] using hS)⟩
        · have h6 : L 6 = false := by cases hh : L 6 with | false => rfl | true => (have hq := q6 hh; simp [hi] at hq)
          have h10 : L 10 = false := by cases hh : L 10 with | false => rfl | true => (have hq := q10 hh; simp [hi] at hq)
          obtain rfl := p2 (by simp [he])
          obtain rfl := p4 (by simp [he])
          have hsl := HSL.out w'
          refine wpOp_step rfl (fun K hK => ?_)
          go_simp
          exact hK _ _ ⟨_, _, _, _, _, _, _, _, _, _, rfl, (by first | exact p0 | exact fun _ => rfl), (by first | exact p1 | exact fun _ => rfl), (by first | exact p2 | exact fun _ => rfl), (by first | exact p3 | exact fun _ => rfl), (by first | exact p4 | exact fun _ => rfl), (fun _ => rfl), (by simp [h6]), (by first | exact p7 | exact fun _ => rfl), (by first | exact p8 | exact fun _ => rfl), (by first | exact p9 | exact fun _ => rfl), (by simpa using q4), (by simp [he]), (by simp [h6]), (by simpa using q9), (by simp [h10]), (by simpa [h6, h10] using hS)⟩
        · have h10 : L 10 = false := by cases hh : L 10 with | false => rfl | true => (have hq := q10 hh; simp [hi] at hq)
          obtain rfl := p1 (by simp [he])
          obtain rfl := p5 (by simp [he])
          have hz := HZ.out
          refine wpOp_step rfl (fun K hK => ?_)
          go_simp
          exact hK _ _ ⟨_, _, _, _, _, _, _, _, _, _, rfl, (by first | exact p0 | exact fun _ => rfl), (by first | exact p1 | exact fun _ => rfl), (by first | exact p2 | exact fun _ => rfl), (by first | exact p3 | exact fun _ => rfl), (by first | exact p4 | exact fun _ => rfl), (by first | exact p5 | exact fun _ => rfl), (fun _ => rfl), (by first | exact p7 | exact fun _ => rfl), (by first | exact p8 | exact fun _ => rfl), (by first | exact p9 | exact fun _ => rfl), (by simpa using q4), (by simpa using q5), (by simp [he]), (by simpa using q9), (by simp [h10]), (by simpa [h10] using hS)⟩
        · have h9 : L 9 = false := by cases hh : L 9 with | false => rfl | true => (have hq := q9 hh; simp [hi] at hq)
          have h10 : L 10 = false := by cases hh : L 10 with | false => rfl | true => (have hq := q10 hh; simp [hi] at hq)
          refine wpOp_step rfl (fun K hK => ?_)
          go_simp
          exact hK _ _ ⟨_, _, _, _, _, _, _, _, _, _, rfl, (by first | exact p0 | exact fun _ => rfl), (by first | exact p1 | exact fun _ => rfl), (by first | exact p2 | exact fun _ => rfl), (by first | exact p3 | exact fun _ => rfl), (by first | exact p4 | exact fun _ => rfl), (by first | exact p5 | exact fun _ => rfl), (by first | exact p6 | exact fun _ => rfl), (fun _ => rfl), (by first | exact p8 | exact fun _ => rfl), (by simp [h9]), (by simpa using q4), (by simpa using q5), (by simpa using q6), (by simp [h9]), (by simp [h10]), (by simpa [h9, h10] using hS)⟩
        · have h9 : L 9 = false := by cases hh : L 9 with | false => rfl | true => (have hq := q9 hh; simp [hi] at hq)
          have h10 : L 10 = false := by cases hh : L 10 with | false => rfl | true => (have hq := q10 hh; simp [hi] at hq)
          refine wpOp_step rfl (fun K hK => ?_)
          go_simp
          exact hK _ _ ⟨_, _, _, _, _, _, _, _, _, _, rfl, (by first | exact p0 | exact fun _ => rfl), (by first | exact p1 | exact fun _ => rfl), (by first | exact p2 | exact fun _ => rfl), (by first | exact p3 | exact fun _ => rfl), (by first | exact p4 | exact fun _ => rfl), (by first | exact p5 | exact fun _ => rfl), (by first | exact p6 | exact fun _ => rfl), (by first | exact p7 | exact fun _ => rfl), (fun _ => rfl), (by simp [h9]), (by simpa using q4), (by simpa using q5), (by simpa using q6), (by simp [h9]), (by simp [h10]), (by simpa [h9, h10] using hS)⟩
        · have h10 : L 10 = false := by cases hh : L 10 with | false => rfl | true => (have hq := q10 hh; simp [hi] at hq)
          obtain rfl := p7 (by simp [he])
          obtain rfl := p8 (by simp [he])
          have l1 := HLK.out w' (by rw [if_neg (by simp [h10])] at hS; exact hS)
          refine wpOp_step rfl (fun K hK => ?_)
          go_simp
          exact hK _ _ ⟨_, _, _, _, _, _, _, _, _, _, rfl, (by first | exact p0 | exact fun _ => rfl), (by first | exact p1 | exact fun _ => rfl), (by first | exact p2 | exact fun _ => rfl), (by first | exact p3 | exact fun _ => rfl), (by first | exact p4 | exact fun _ => rfl), (by first | exact p5 | exact fun _ => rfl), (by first | exact p6 | exact fun _ => rfl), (by first | exact p7 | exact fun _ => rfl), (by first | exact p8 | exact fun _ => rfl), (fun _ => rfl), (by simpa using q4), (by simpa using q5), (by simpa using q6), (by simp [he]), (by simp [h10]), (by simpa [h10] using hS)⟩
        · obtain rfl := p0 (by simp [he])
          obtain rfl := p6 (by simp [he])
          obtain rfl := p9 (by simp [he])
          rw [if_neg (by simp [hi])] at hS
          obtain ⟨w5, n2, hn2, hst, hN⟩ := HST.out w' hS
          refine wpOp_step rfl (fun K hK => ?_)
          go_simp
          exact hK _ _ ⟨_, _, _, _, _, _, _, _, _, _, rfl, (by first | exact p0 | exact fun _ => rfl), (by first | exact p1 | exact fun _ => rfl), (by first | exact p2 | exact fun _ => rfl), (by first | exact p3 | exact fun _ => rfl), (by first | exact p4 | exact fun _ => rfl), (by first | exact p5 | exact fun _ => rfl), (by first | exact p6 | exact fun _ => rfl), (by first | exact p7 | exact fun _ => rfl), (by first | exact p8 | exact fun _ => rfl), (by first | exact p9 | exact fun _ => rfl), (by simpa using q4), (by simpa using q5), (by simpa using q6), (by simpa using q9), (by simp [he]), (by rw [if_pos (by simp)]; exact ⟨n2, hn2, hN⟩)⟩
      · rintro L ac w' ⟨x38, x39, x40, x41, x42, x43, x44, x45, x46, x47, ha, p0, p1, p2, p3, p4, p5, p6, p7, p8, p9, q4, q5, q6, q9, q10, hS⟩ hall
        have t10 := hall 10 (by decide)
        rw [if_pos t10] at hS
        obtain ⟨n2, hn2, hS⟩ := hS
        obtain rfl := p0 (hall 0 (by decide))
        obtain rfl := p1 (hall 1 (by decide))
        obtain rfl := p2 (hall 2 (by decide))
        obtain rfl := p3 (hall 3 (by decide))
        obtain rfl := p4 (hall 4 (by decide))
        obtain rfl := p5 (hall 5 (by decide))
        obtain rfl := p6 (hall 6 (by decide))
        obtain rfl := p7 (hall 7 (by decide))
        obtain rfl := p8 (hall 8 (by decide))
        obtain rfl := p9 (hall 9 (by decide))
        simp only [turn, List.foldl_cons, List.foldl_nil, List.setIfInBounds_toArray, List.set_cons_succ, List.set_cons_zero] at ha
        subst ha
        clear q4 q5 q6 q9 q10  t10
        have HS2 := Lib.hid hS
        clear hS
        obtain ⟨w6, hdr, _, K6⟩ := HS2.out.drop i (getSet_self' HLBI.out) kstr HK1.out Tryd.underlying37
        rw [List.set_set] at K6
        have HS6 := Lib.hid K6
        have HN6 : Hid ((if ((mup h1 (P (q ++ t)) (nv G a)) (P (p ++ t))).isSome then n2 - 1 else n2) ≤ n) := Lib.hid (by
          rw [mup_other _ _ HNE.out, HHL.out]
          simp
          omega)
        have HT6 : Hid (Tab (mvs H p q (ts1.take (k + 1))) (nv G) (mdel (mup h1 (P (q ++ t)) (nv G a)) (P (p ++ t)))) := Lib.hid (by
          rw [List.take_add_one, HHT.out]
          show Tab (mvs H p q (ts1.take k ++ [t])) _ _
          rw [mvs_snoc HPQ.out.2.2.1 HPQ.out.2.2.2.1 HNT.out HHA.out]
          unfold mv1
          rw [HAT.out]
          exact tab_del (tab_put HT.out HQT.out a) HPT.out)
        clear K6
        go_wp2
        go_roundg (m1 - (k + 1))
        case measure => omega
        case rel => exact ⟨k + 1, _, _, HLT.out, rfl, by have := HMN.out; have := HLT.out; have hw : wrap64 ((k : Int) + 1) = (k : Int) + 1 := (by unfold wrap64; omega); first | (rw [hw]; rfl) | simp [hw] | go_num, HN6.out, HT6, by
          have h := HS6.out
          rw [← HLB.out, setS HI.out] at h
          exact h⟩
    · obtain rfl : k = m1 := by omega
      have HF : Hid (∃ n' h', n' ≤ n ∧ Tab (mv H p q) (nv G) h' ∧ Sep w0 wr (L.set i (tm g n' h'))) := Lib.hid (by
        refine ⟨n1, h1, hn1, ?_, HS.out.sub (List.sublist_append_left _ _)⟩
        have h := HT.out
        rw [List.take_of_length_le (by rw [HTS.out.1]; exact Nat.le_refl _), mvs_all HTI.out HPQ.out.2.2.2.2.1 HTS.out.2.2] at h
        exact h)
      clear HS HT
      go_wp2
      go_ret
      exact ⟨rfl, HF.out⟩
end Tr
end Go.Proofs.YtgidkaidljiddaaDoor
