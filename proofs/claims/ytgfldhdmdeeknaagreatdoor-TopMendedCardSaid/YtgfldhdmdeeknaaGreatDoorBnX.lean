/-
  Walk of bench.Parse. Conditions: none beyond each theorem's own premises.
-/
import Derived.Test.YtgfldhdmdeeknaaGreatDoorBnVb
import Derived.Test.YtgfldhdmdeeknaaGreatDoorBnL
namespace Go.Proofs.YtgfldhdmdeeknaaGreatDoor
open Go.RowKit Go.Shelf Go.Sort
set_option linter.unusedVariables false
namespace Bn

theorem reads_rdl {l : By} {o : So.Op} (h : Reads l o) : Rdl l o := by
  refine ⟨h.1, fun o' h' => ?_⟩
  rcases words_of h with ⟨nm, dt, rfl, hw⟩ | ⟨nm, rfl, hw⟩ | ⟨nm, rfl, hw⟩ | ⟨rfl, hw⟩ | ⟨k, rfl, h1, h2, hw⟩
  · have hr := (rdl_write hw dt.data.toList (hx_dec2 _ _ (by rw [hx_dec]))).2 o' h'
    rw [bs_dat, bs_dat] at hr
    exact hr
  · have hr := (rdl_remove hw).2 o' h'
    rw [bs_dat] at hr
    exact hr
  · have hr := (rdl_read hw).2 o' h'
    rw [bs_dat] at hr
    exact hr
  · exact (rdl_sync hw).2 o' h'
  · exact (rdl_crash hw k (fun v h3 h4 e => by
      have e1 := atoi_itoa k h1 h2
      rw [e, atoi_itoa v h3 h4] at e1
      cases e1
      rfl)).2 o' h'
theorem cut_eq {l l' t t' : By} (h : l ++ 10 :: t = l' ++ 10 :: t') (hl : ∀ b ∈ l, b ≠ 10) (hl' : ∀ b ∈ l', b ≠ 10) : l = l' ∧ t = t' := by
  have h1 := cut_at l t hl
  rw [h, cut_at l' t' hl'] at h1
  simp only [Prod.mk.injEq] at h1
  exact ⟨h1.1.symm, h1.2.1.symm⟩
theorem pr_done {es : List So.Op} {r k} (h : PR [] es r k) : r = some es := by
  generalize hs : ([] : By) = s at h
  cases h with
  | done => rfl
  | rest h _ => exact absurd hs.symm h
  | line _ _ _ => simp at hs
  | bad _ _ => simp at hs
theorem pr_rest {s : By} {es : List So.Op} {r k} (h : PR s es r k) (h0 : s ≠ []) (hn : ∀ b ∈ s, b ≠ 10) : r = none ∧ k = es.length := by
  cases h with
  | done => exact absurd rfl h0
  | rest _ _ => exact ⟨rfl, rfl⟩
  | line _ _ _ => exact absurd rfl (hn 10 (by simp))
  | bad _ _ => exact ⟨rfl, rfl⟩
theorem pr_line {l t : By} {es : List So.Op} {r k o} (h : PR (l ++ 10 :: t) es r k) (hn : ∀ b ∈ l, b ≠ 10) (ho : Reads l o) : PR t (es ++ [o]) r k := by
  generalize hs : l ++ 10 :: t = s at h
  cases h with
  | done => simp at hs
  | rest _ h => exact absurd rfl (h 10 (by rw [← hs]; simp))
  | line hn' h' ht =>
    obtain ⟨rfl, rfl⟩ := cut_eq hs hn hn'
    rw [(reads_rdl ho).2 _ h']
    exact ht
  | bad hn' h' =>
    obtain ⟨rfl, rfl⟩ := cut_eq hs hn hn'
    exact absurd ho (h' _)
theorem pr_bad {l t : By} {es : List So.Op} {r k} (h : PR (l ++ 10 :: t) es r k) (hn : ∀ b ∈ l, b ≠ 10) (ho : ∀ o, ¬ Reads l o) : r = none ∧ k = es.length := by
  generalize hs : l ++ 10 :: t = s at h
  cases h with
  | done => simp at hs
  | rest _ h => exact absurd rfl (h 10 (by rw [← hs]; simp))
  | line hn' h' ht =>
    obtain ⟨rfl, rfl⟩ := cut_eq hs hn hn'
    exact absurd h' (ho _)
  | bad _ _ => exact ⟨rfl, rfl⟩
/-- a round of reading -/
theorem pr_round {t la ta : By} {en : Bool} {es : List So.Op} {r k o} (h : PR t es r k) (h0 : t ≠ []) (hc : Lib.cut t [10] = (la, ta, en)) (hr : Rdl la o) :
    (en = true → lk o = true → lt o = la → PR ta (es ++ [o]) r k ∧ ta.length < t.length) ∧ ((en = false ∨ lk o = false ∨ lt o ≠ la) → r = none ∧ k = es.length) ∧ la.length ≤ t.length := by
  rcases has_or (c := 10) t with hn | ⟨l, t', rfl, hn⟩
  · rw [cut_no t hn] at hc
    simp only [Prod.mk.injEq] at hc
    obtain ⟨rfl, rfl, rfl⟩ := hc
    refine ⟨?_, ?_, Nat.le_refl _⟩
    · intro h9
      cases h9
    · intro _
      exact pr_rest h h0 hn
  · rw [cut_at l t' hn] at hc
    simp only [Prod.mk.injEq] at hc
    obtain ⟨rfl, rfl, rfl⟩ := hc
    refine ⟨fun _ h1 h2 => ⟨pr_line h hn (rdl_reads hr h1 h2), by simp; omega⟩, fun h1 => pr_bad h hn (fun o' ho' => ?_), by simp⟩
    obtain ⟨h2, _⟩ := reads_one hr ho'
    rcases h1 with h1 | h1 | h1
    · cases h1
    · rw [h2.2.1] at h1; cases h1
    · exact h1 h2.2.2
theorem line_op (o : So.Op) (h : OkO o) (w : World) (hg : Gl w) : Calls Tryz.prog 22 #[.agg #[.int .i64 o.kind, .string o.nm, .string o.dt, .int .i64 o.keep]] w (Ret w (LineR o)) :=
  line_any o.kind o.nm.data.toList o.dt.data.toList o.keep o.nm o.dt (bs_of _) (bs_of _) (by rw [size_data]; exact h.1) (by rw [size_data]; exact h.2.1) h.2.2.1 h.2.2.2 w hg
theorem op_info : (Tryz.prog.info? 56).map (fun i => (i.zero, i.size, i.bytes)) = some (some (.agg #[.int .i64 0, .string ⟨#[]⟩, .string ⟨#[]⟩, .int .i64 0]), 4, 48) := by kernel_rfl
/-- the answer of Parse and YParse -/
def PRv (w : World) : Option (List So.Op) → Nat → Ending → World → Prop
  | none, k, e, w' => e = .returned (.tuple #[.slice none 0 0, .int .i64 (k : Int), .int .i64 1]) ∧ Below w.heap.size w w'
  | some l, _, e, w' => ∃ A c, l.length ≤ c ∧ e = .returned (.tuple #[.slice A l.length c, .int .i64 0, .int .i64 0]) ∧ Sep w w' [.row 56 4 (.slice A l.length c) l.length (l.flatMap So.Op.cells)]

set_option maxRecDepth 100000 in
set_option maxHeartbeats 6400000 in
theorem parseAll_any (x : By) (S : ByteArray) (hS : bs x = S) (hl : x.length ≤ 67108865) (r : Option (List So.Op)) (kk : Nat) (hr : PR x [] r kk) (w : World) (hg : Gl w) :
    Calls Tryz.prog 16 #[.string S] w (PRv w r kk) := by
  obtain ⟨ti, hti, t0, t1, t2⟩ := info_parts op_info
  subst hS
  have HG := Lib.hid hg
  have HR := Lib.hid hr
  have HS0 := Lib.hid ((Sep.nil_ w).nilRow 56 4 none)
  obtain ⟨N, hN⟩ : ∃ N, x.length = N := ⟨_, rfl⟩
  have HN := Lib.hid hN
  rw [hN] at hl
  clear hg hr hN
  go_enter Tryz.func16, Tryz.ntmps16
  go_wp2
  go_loopg [0, 5] N (fun g s ov wr => ∃ (t : By) (es : List So.Op) (A : Option Addr) (n c : Nat), g = t.length ∧ s = .string (bs t) ∧ ov = .slice A n c ∧ Hid (es.length = n) ∧ n + t.length ≤ N ∧ n ≤ c ∧ Hid (PR t es r kk) ∧ Sep w wr [.row 56 4 (.slice A n c) n (es.flatMap So.Op.cells)])
  case atStart => exact ⟨x, [], none, 0, 0, HN.out.symm, rfl, rfl, Lib.hid rfl, by rw [HN.out]; omega, Nat.le_refl _, HR, HS0.out⟩
  case round =>
    obtain ⟨t, es, A, n, c, rfl, rfl, rfl, HE, hle, hnc, HP, hs⟩ := hrel
    have HS := Lib.hid hs
    clear hs
    by_cases ht : t = []
    · subst ht
      have z0 : (bs ([] : By)).toList.isEmpty = true := by rw [bs_toList]; rfl
      have HF : Hid (r = some es) := Lib.hid (pr_done HP.out)
      go_wp2
      refine bodyPost_ret (v := .tuple #[.slice A n c, .int .i64 0, .int .i64 0]) (by simp [results, Tryz.results16]) rfl ?_
      rw [HF.out]
      refine ⟨A, c, ?_, ?_, ?_⟩
      · rw [HE.out]; exact hnc
      · rw [HE.out]
      · rw [HE.out]; exact HS.out
    · have z0 : (bs t).toList.isEmpty = false := by
        rw [bs_toList]
        cases t with
        | nil => exact absurd rfl ht
        | cons _ _ => rfl
      have cC := cut_any t (by omega) wr (HG.out.later HS.out.below)
      obtain ⟨la, ta, en, hcut⟩ : ∃ la ta en, Lib.cut t [10] = (la, ta, en) := ⟨_, _, _, rfl⟩
      rw [hcut] at cC
      simp only at cC
      have e10 : (⟨#[10]⟩ : ByteArray) = bs [10] := rfl
      rw [← e10] at cC
      have CC := Lib.hid cC
      have HCUT := Lib.hid hcut
      have HT0 := Lib.hid ht
      have hlal : la.length ≤ t.length := by
        rcases has_or (c := 10) t with hn | ⟨l, t', rfl, hn⟩
        · rw [cut_no t hn] at hcut
          simp only [Prod.mk.injEq] at hcut
          rw [← hcut.1]
          exact Nat.le_refl _
        · rw [cut_at l t' hn] at hcut
          simp only [Prod.mk.injEq] at hcut
          rw [← hcut.1]
          simp
      clear cC hcut e10 ht
      go_wp2_with fail
      refine CC.out.mono ?_; rintro en1 w1 ⟨rfl, hb1⟩
      have HS1 := Lib.hid (HS.out.later hb1)
      have cP := Lib.hid (parse_any la _ rfl (by omega) w1 (HG.out.later HS1.out.below))
      clear CC HS hb1 z0
      go_wp2_with fail
      refine cP.out.mono ?_; rintro en2 w2 ⟨o, rfl, hrd, hok, hb2⟩
      have HRD := Lib.hid hrd
      have HOK := Lib.hid hok
      have HS3 : Hid (Sep w (w2.alloc (.cells #[.int .i64 o.kind, .string o.nm, .string o.dt, .int .i64 o.keep] 56)) [.row 56 4 (.slice A n c) n (es.flatMap So.Op.cells), .cells w2.heap.size 56 [.int .i64 o.kind, .string o.nm, .string o.dt, .int .i64 o.keep]]) := Lib.hid ((HS1.out.later hb2).new 56 [.int .i64 o.kind, .string o.nm, .string o.dt, .int .i64 o.keep])
      clear cP hrd hok hb2 HS1
      go_upto_region 5 with (fail)
      generalize w2.alloc (.cells #[.int .i64 o.kind, .string o.nm, .string o.dt, .int .i64 o.keep] 56) = w3 at HS3 ⊢
      generalize w2.heap.size = gx at HS3 ⊢
      have p0 := HS3.out.cell 1 rfl (k := 0) rfl
      have p1 := HS3.out.cell 1 rfl (k := 1) rfl
      have p2 := HS3.out.cell 1 rfl (k := 2) rfl
      have p3 := HS3.out.cell 1 rfl (k := 3) rfl
      obtain ⟨LV, hLV⟩ : ∃ LV, bs (lt o) = LV := ⟨_, rfl⟩
      obtain ⟨lv, hlv⟩ : ∃ lv, lk o = lv := ⟨_, rfl⟩
      have cY := line_op o HOK.out w3 (HG.out.later HS3.out.below)
      unfold LineR at cY
      rw [hLV, hlv] at cY
      have CY := Lib.hid cY
      have HLV := Lib.hid hLV
      have HLK := Lib.hid hlv
      clear cY hLV hlv
      go_wp2_with fail
      refine CY.out.mono ?_; rintro en3 w4 ⟨rfl, hb4⟩
      have HS4 := Lib.hid (HS3.out.later hb4)
      clear p0 p1 p2 p3 CY hb4 HS3
      have p0 := HS4.out.cell 1 rfl (k := 0) rfl
      have p1 := HS4.out.cell 1 rfl (k := 1) rfl
      have p2 := HS4.out.cell 1 rfl (k := 2) rfl
      have p3 := HS4.out.cell 1 rfl (k := 3) rfl
      cases en with
      | false =>
        obtain ⟨hrn, hkn⟩ := (pr_round HP.out HT0.out HCUT.out HRD.out).2.1 (.inl rfl)
        have HRN := Lib.hid hrn
        have HKN := Lib.hid hkn
        clear hrn hkn
        go_wp2
        refine bodyPost_ret (v := .tuple #[.slice none 0 0, .int .i64 (n : Int), .int .i64 1]) (by simp [results, Tryz.results16]) rfl ?_
        rw [HRN.out]
        exact ⟨by rw [HKN.out, HE.out], HS4.out.below⟩
      | true =>
        cases lv with
        | false =>
          obtain ⟨hrn, hkn⟩ := (pr_round HP.out HT0.out HCUT.out HRD.out).2.1 (.inr (.inl HLK.out))
          have HRN := Lib.hid hrn
          have HKN := Lib.hid hkn
          clear hrn hkn
          go_wp2
          refine bodyPost_ret (v := .tuple #[.slice none 0 0, .int .i64 (n : Int), .int .i64 1]) (by simp [results, Tryz.results16]) rfl ?_
          rw [HRN.out]
          exact ⟨by rw [HKN.out, HE.out], HS4.out.below⟩
        | true =>
          obtain ⟨LA, hLA⟩ : ∃ LA, bs la = LA := ⟨_, rfl⟩
          rw [hLA]
          by_cases hq : LV = LA
          · have zE : (LV.toList == LA.toList) = true := by rw [hq]; simp
            have zE2 : (LV.toList != LA.toList) = false := by simp [bne, zE]
            obtain ⟨hpr, hlt⟩ := (pr_round HP.out HT0.out HCUT.out HRD.out).1 rfl HLK.out (bs_inj (by rw [HLV.out, hq, hLA]))
            have HPR := Lib.hid hpr
            have HE2 : Hid ((es ++ [o]).length = n + 1) := Lib.hid (by rw [List.length_append, HE.out]; rfl)
            have hnew := Rd.of_own (own_new w4 56 #[.int .i64 o.kind, .string o.nm, .string o.dt, .int .i64 o.keep] 4 1 rfl (by simp [maxLen]) (Nat.le_refl _))
            clear hq hpr hLA
            go_wp2_with (at_builtin; refine wpList_append_sep (HS4.out.alloc _) 0 rfl (.tmp 40) (.tmp 42) 45 rfl 56 ti (.agg #[.int .i64 0, .string ⟨#[]⟩, .string ⟨#[]⟩, .int .i64 0]) 4 48 Tryz.underlying45 hti t0 t1 t2 rfl (by omega) _ n _ rfl rfl _ _ 1 1 _ rfl hnew (by simp [Value.oneCell']) (by simp only [maxLen]; omega) (by omega) ?_; intro A6 c6 w5 hc6 hsz5 hs5)
            go_roundg ta.length
            case measure => omega
            case rel => exact ⟨ta, es ++ [o], A6, n + 1, c6, rfl, rfl, rfl, HE2, by omega, hc6, HPR, by have h := hs5.pick [0] (by decide) (by simp); rw [List.flatMap_append]; simpa [pickL, So.Op.cells] using h⟩
          · have zE : (LV.toList == LA.toList) = false := ne_str hq
            have zE2 : (LV.toList != LA.toList) = true := by simp [bne, zE]
            obtain ⟨hrn, hkn⟩ := (pr_round HP.out HT0.out HCUT.out HRD.out).2.1 (.inr (.inr (fun e => hq (by rw [← HLV.out, e, hLA]))))
            have HRN := Lib.hid hrn
            have HKN := Lib.hid hkn
            clear hrn hkn hq hLA
            go_wp2
            refine bodyPost_ret (v := .tuple #[.slice none 0 0, .int .i64 (n : Int), .int .i64 1]) (by simp [results, Tryz.results16]) rfl ?_
            rw [HRN.out]
            exact ⟨by rw [HKN.out, HE.out], HS4.out.below⟩
end Bn
end Go.Proofs.YtgfldhdmdeeknaaGreatDoor
