/-
  Walks of package store: apply, Clone, settle, check. Conditions: none beyond each theorem's own premises.
-/
import Derived.Test.YtgfldhdmdeeknaaGreatDoorSoBase
import Derived.Test.YtgfldhdmdeeknaaGreatDoorShelfT
import Derived.Test.YtgfldhdmdeeknaaGreatDoorDrG
import Derived.Test.YtgfldhdmdeeknaaGreatDoorBase
namespace Go.Proofs.YtgfldhdmdeeknaaGreatDoor
open Go.RowKit Go.Shelf
set_option linter.unusedVariables false
namespace So
open Dr

abbrev fm (g n : Nat) (h : Fs) : It := .map Tryz.prog 9 Value.string Value.string g n h
abbrev sC (gS gn gd : Nat) (A : Option Addr) (n c : Nat) : It := .cells gS 69 [.map (some gn), .map (some gd), .slice A n c]
abbrev oC (g : Nat) (o : Op) : It := .cells g 56 o.cells
abbrev oR (A : Option Addr) (n c : Nat) (C : List Op) : It := .row 56 4 (.slice A n c) n (C.flatMap Op.cells)
theorem kstr : KMk Tryz.prog 9 Value.string (fun s => s.size ≤ maxLen) := kmk_string Tryz.underlying9
theorem sz (w : World) : (zeroValue 9).run Tryz.prog w = .ok (.string ⟨#[]⟩) w := by kernel_rfl
theorem sep_cnt {w0 w : World} {L : List It} (H : Sep w0 w L) (i : Nat) {g n : Nat} {h : Fs} (hi : L[i]? = some (fm g n h)) : Cnt h n := by
  obtain ⟨es, clock, hb, M⟩ := H.all i _ hi
  obtain ⟨ks, h1, h2, _, h4⟩ := M.keyList kstr
  exact ⟨ks, h1, h2, h4⟩

set_option maxRecDepth 100000 in
theorem apply_any (w0 w : World) (L : List It) (i g n : Nat) (h : Fs) (o : Op) (H : Sep w0 w L) (hi : L[i]? = some (fm g n h)) (hsz : o.nm.size ≤ maxLen) (hn : n < maxLen) :
    Calls Tryz.prog 35 #[.map (some g), .agg #[.int .i64 o.kind, .string o.nm, .string o.dt, .int .i64 o.keep]] w (fun e w' => e = .returned (.tuple #[]) ∧ ∃ n', n' ≤ n + 1 ∧ Sep w0 w' (L.set i (fm g n' (ap h o)))) := by
  have hl := (List.getElem?_eq_some_iff.1 hi).1
  have H1 := H.new 56 o.cells
  have hi1 : (L ++ [oC w.heap.size o])[i]? = some (fm g n h) := by rw [List.getElem?_append_left hl]; exact hi
  have hb1 : (L ++ [oC w.heap.size o])[L.length]? = some (oC w.heap.size o) := by simp
  have e0 := H1.cell L.length hb1 (k := 0) rfl
  have e1 := H1.cell L.length hb1 (k := 1) rfl
  have e2 := H1.cell L.length hb1 (k := 2) rfl
  have hset : ∀ x, (L ++ [oC w.heap.size o]).set i x = L.set i x ++ [oC w.heap.size o] := fun x => List.set_append_left _ _ hl
  by_cases hk : o.kind = 1
  · obtain ⟨w2, hrun, _, K⟩ := H1.store i hi1 kstr hsz Tryz.underlying67 hn o.dt
    rw [hset] at K
    have K2 : Hid (Sep w0 w2 (L.set i (fm g (if (h o.nm).isSome then n else n + 1) (ap h o)))) := Lib.hid (by
      have h2 := K.sub (List.sublist_append_left _ _)
      rw [ap_write hk]
      exact h2)
    have HLE : Hid ((if (h o.nm).isSome then n else n + 1) ≤ n + 1) := Lib.hid (by split <;> omega)
    rw [hk] at e0 ⊢
    simp only [Op.cells, hk] at hrun
    clear K H1 H hset hb1 hi1 hi hl hk
    go_enter Tryz.func35, Tryz.ntmps35
    go_wp2
    refine bodyPost_end (v := .tuple #[]) (by simp [results, Tryz.results35]) rfl ?_
    exact ⟨rfl, _, HLE.out, K2.out⟩
  · obtain ⟨w2, hrun, _, K⟩ := H1.drop i hi1 kstr hsz Tryz.underlying67
    rw [hset] at K
    have K2 : Hid (Sep w0 w2 (L.set i (fm g (if (h o.nm).isSome then n - 1 else n) (ap h o)))) := Lib.hid (by
      have h2 := K.sub (List.sublist_append_left _ _)
      rw [ap_other hk]
      exact h2)
    have HLE : Hid ((if (h o.nm).isSome then n - 1 else n) ≤ n + 1) := Lib.hid (by split <;> omega)
    have hk0 : (o.kind == 1) = false := by simp [hk]
    simp only [Op.cells] at hrun
    clear K H1 H hset hb1 hi1 hi hl hk
    go_enter Tryz.func35, Tryz.ntmps35
    go_wp2
    refine bodyPost_end (v := .tuple #[]) (by simp [results, Tryz.results35]) rfl ?_
    exact ⟨rfl, _, HLE.out, K2.out⟩

theorem clone_any (w0 w : World) (L : List It) (i g n : Nat) (h : Fs) (H : Sep w0 w L) (hi : L[i]? = some (fm g n h)) :
    Calls Tryz.prog 50 #[.map (some g)] w (fun e w' => ∃ g', e = .returned (.map (some g')) ∧ Sep w0 w' (L ++ [fm g' n h])) := by
  obtain ⟨es, clock, hb, M⟩ := H.all i _ hi
  refine (AnyW.maps_Clone Tryz.cloneA g es clock w hb).mono fun e w' ⟨he, hw⟩ => ⟨_, he, ?_⟩
  subst hw
  refine (H.alloc _).push (y := fm w.heap.size n h) ⟨es, clock, heap_alloc_new w _, M⟩ (fun b e => ?_)
  cases e
  exact ⟨H.below.size, fun i x hx e => by have := x.live w (H.all i x hx) _ e; omega⟩

theorem op_info : (Tryz.prog.info? 56).map (fun i => (i.zero, i.size, i.bytes)) = some (some (.agg #[.int .i64 0, .string ⟨#[]⟩, .string ⟨#[]⟩, .int .i64 0]), 4, 48) := by kernel_rfl
theorem now_take {D : Fs} {C : List Op} {j : Nat} {o : Op} (h : C[j]? = some o) : now D (C.take (j + 1)) = ap (now D (C.take j)) o := by rw [List.take_add_one, h]; exact now_snoc _ _ _

set_option maxRecDepth 100000 in
set_option maxHeartbeats 1600000 in
theorem settle_any (w0 w : World) (gS gn gd nn nd : Nat) (A : Option Addr) (n c : Nat) (N D : Fs) (C : List Op) (R : List It) (keep : Int) (k : Nat)
    (H : Sep w0 w (sC gS gn gd A n c :: fm gn nn N :: fm gd nd D :: oR A n c C :: R)) (hl : C.length = n) (hk : min keep (n : Int) = (k : Int)) (hk0 : 0 ≤ keep) (hsz : ∀ o ∈ C, o.nm.size ≤ maxLen) (hnd : nd + n < maxLen) :
    Calls Tryz.prog 34 #[.pointer (some ⟨gS, 0, none⟩), .int .i64 keep] w (fun e w' => e = .returned (.tuple #[]) ∧
      ∃ gn' nd', nd' ≤ nd + k ∧ Sep w0 w' (sC gS gn' gd none 0 0 :: fm gn' nd' (now D (C.take k)) :: fm gd nd' (now D (C.take k)) :: oR none 0 0 [] :: R)) := by
  obtain ⟨ti, hti, t0, t1, t2⟩ := info_parts op_info
  have hkn : k ≤ n := by omega
  have hnc : n ≤ c := by
    obtain ⟨A', c', e, h⟩ := (H.rowHas 3 rfl).slice
    cases e
    exact h
  have HS := Lib.hid H
  have HL := Lib.hid hl
  have HSZ := Lib.hid hsz
  have hn63 : n ≤ 9223372036854775806 := by unfold maxLen at hnd; omega
  obtain ⟨mn, HMN, hmn⟩ := min2_ex Tryz.prog keep (n : Int)
  obtain rfl : mn = (k : Int) := by
    rw [HMN.out, ← hk]
    split <;> omega
  have f1 := fun z : LaterOf w => (H.later z.h).cell 0 rfl (k := 2) rfl
  have hsl : ∀ W, (Instr.slice 45 (.slice A n c) none (some (.int .i64 (k : Int))) none).run Tryz.prog W = .ok (.slice A k c) W := fun W => upto_run Tryz.underlying45 (size_of_info hti t1) _ n c k (by omega) W
  clear H hl hsz HMN
  go_enter Tryz.func34, Tryz.ntmps34
  go_upto_region 0 with (fail)
  refine wp_region_later (by kernel_rfl) (by kernel_rfl) ?_
  repeat (go_big_quiet_step (fail))
  refine wpQuiet_nil ?_; intro xw hw'; obtain ⟨xq, hw''⟩ := hw'; obtain ⟨xw0, xh⟩ := xq; change xw = xw0 at hw''; subst hw''
  have HS1 := Lib.hid (HS.out.later xh)
  clear HS xh f1 hsl hmn hk
  go_wp2
  go_loopg [19] k (fun q i wr => ∃ (j nd' : Nat), j ≤ k ∧ q = k - j ∧ i = .int .i64 (j : Int) ∧ nd' ≤ nd + j ∧ Sep w0 wr (sC gS gn gd A n c :: fm gn nn N :: fm gd nd' (now D (C.take j)) :: oR A n c C :: R))
  case atStart => exact ⟨0, nd, Nat.zero_le _, rfl, rfl, Nat.le_refl _, HS1.out⟩
  case round =>
    clear HS1
    obtain ⟨j, nd', hj, rfl, rfl, hnd', hs⟩ := hrel
    have HS := Lib.hid hs
    clear hs
    by_cases hlt : j < k
    · obtain ⟨b, off, rfl, hb, hc⟩ := (HS.out.rd 3 rfl).at_ Op.len (by omega)
      obtain ⟨o, ho⟩ : ∃ o, C[j]? = some o := ⟨_, List.getElem?_eq_getElem (by rw [HL.out]; omega)⟩
      have q0 : wr.cell? ⟨b, off + j * 4, none⟩ = some (.int .i64 o.kind) := hc j 0 o _ ho rfl
      have q1 : wr.cell? ⟨b, off + j * 4 + 1, none⟩ = some (.string o.nm) := hc j 1 o _ ho rfl
      have q2 : wr.cell? ⟨b, off + j * 4 + 2, none⟩ = some (.string o.dt) := hc j 2 o _ ho rfl
      have q3 : wr.cell? ⟨b, off + j * 4 + 3, none⟩ = some (.int .i64 o.keep) := hc j 3 o _ ho rfl
      have i0 : (0 : Int) ≤ (j : Int) := by omega
      have i1 : (j : Int) < (k : Int) := by omega
      have HNX : Hid (now D (C.take (j + 1)) = ap (now D (C.take j)) o) := Lib.hid (now_take ho)
      have HOS : Hid (o.nm.size ≤ maxLen) := Lib.hid (HSZ.out o (List.mem_of_getElem? ho))
      have HS2 : Hid (Sep w0 (wr.alloc (.cells #[.int .i64 o.kind, .string o.nm, .string o.dt, .int .i64 o.keep] 56)) (sC gS gn gd (some ⟨b, off, none⟩) n c :: fm gn nn N :: fm gd nd' (now D (C.take j)) :: oR (some ⟨b, off, none⟩) n c C :: (R ++ [oC wr.heap.size o]))) := Lib.hid (HS.out.new 56 o.cells)
      clear hc ho HS
      go_upto_region 3 with (fail)
      clear q0 q1 q2 q3
      generalize wr.alloc (.cells #[.int .i64 o.kind, .string o.nm, .string o.dt, .int .i64 o.keep] 56) = wo at HS2 ⊢
      generalize wr.heap.size = gx at HS2 ⊢
      have hbx : (sC gS gn gd (some ⟨b, off, none⟩) n c :: fm gn nn N :: fm gd nd' (now D (C.take j)) :: oR (some ⟨b, off, none⟩) n c C :: (R ++ [oC gx o]))[R.length + 4]? = some (oC gx o) := by simp
      have c1 := fun z : LaterOf wo => (HS2.out.later z.h).cell 0 rfl (k := 1) rfl
      have e0 := fun z : LaterOf wo => (HS2.out.later z.h).cell (R.length + 4) hbx (k := 0) rfl
      have e1 := fun z : LaterOf wo => (HS2.out.later z.h).cell (R.length + 4) hbx (k := 1) rfl
      have e2 := fun z : LaterOf wo => (HS2.out.later z.h).cell (R.length + 4) hbx (k := 2) rfl
      have e3 := fun z : LaterOf wo => (HS2.out.later z.h).cell (R.length + 4) hbx (k := 3) rfl
      clear hbx
      (refine wp_region_tail 5 (by kernel_rfl) (by kernel_rfl) ?_; simp only [List.take_succ_cons, List.take_zero, List.drop_succ_cons, List.drop_zero]; repeat (go_big_quiet_step (fail)))
      clear c1 e0 e1 e2 e3
      refine wpQuiet_nil ?_; intro xw hw'; obtain ⟨xq, hw''⟩ := hw'; obtain ⟨xw0, xh⟩ := xq; change xw = xw0 at hw''; subst hw''
      have cA := Lib.hid (apply_any w0 xw _ 2 gd nd' (now D (C.take j)) o (HS2.out.later xh) rfl HOS.out (by omega))
      clear HS2 xh
      go_wp2_with fail
      refine cA.out.mono ?_; rintro en w5 ⟨rfl, n5, h5, hs5⟩
      have HS5 := Lib.hid hs5
      clear hs5 cA
      go_wp2
      go_roundg (k - (j + 1))
      case measure => omega
      case rel => exact ⟨j + 1, n5, by omega, rfl, by go_num, by omega, by
        rw [HNX.out]
        have h := HS5.out
        refine h.sub ?_
        exact List.Sublist.cons_cons _ (List.Sublist.cons_cons _ (List.Sublist.cons_cons _ (List.Sublist.cons_cons _ (List.sublist_append_left _ _))))⟩
    · obtain rfl : j = k := by omega
      have c1 := HS.out.cell 0 rfl (k := 1) rfl
      have cK := Lib.hid (clone_any w0 wr _ 2 gd nd' (now D (C.take j)) HS.out rfl)
      clear HS hlt
      go_wp2_with fail
      refine cK.out.mono ?_; rintro en w5 ⟨g5, rfl, hs5⟩
      have u0 := hs5.froz 0 rfl (k := 0)
      have u2 := hs5.froz 0 rfl (k := 2)
      have p0 := hs5.cell 0 rfl (k := 0) rfl
      have p2 := hs5.cell 0 rfl (k := 2) rfl
      have hs6 := (hs5.set 0 rfl (k := 0) (.map (some g5))).set 0 rfl (k := 2) (.slice none 0 0)
      have HS7 := Lib.hid ((((hs6.swapAt (L := sC gS g5 gd none 0 0 :: fm gn nn N :: fm gd nd' (now D (C.take j)) :: oR A n c C :: R) 1 (by simp)).nilRow 56 4 none).swapAt 3 (by simp)))
      clear hs5 hs6 cK c1
      go_wp2
      refine bodyPost_end (v := .tuple #[]) (by simp [results, Tryz.results34]) rfl ?_
      exact ⟨rfl, g5, nd', hnd', HS7.out⟩

/-- the error number of an answer -/
theorem GoodB.size {s : ByteArray} (h : GoodB s) : s.size ≤ maxLen := by
  have := h.2.1
  unfold maxLen
  omega

set_option maxRecDepth 100000 in
set_option maxHeartbeats 3200000 in
theorem check_any (w0 w : World) (gS gn gd nn : Nat) (A : Option Addr) (n c : Nat) (D : Fs) (C : List Op) (R : List It) (o : Op) (er : Int) (dd : ByteArray) (D' : Fs) (C' : List Op)
    (H : Sep w0 w (sC gS gn gd A n c :: fm gn nn (now D C) :: R)) (hw : Way D C o ⟨er, dd⟩ D' C') (hsz : o.nm.size ≤ maxLen) (hdt : o.dt.size ≤ 9223372036854775807) (hnn : nn ≤ maxLen) :
    Calls Tryz.prog 33 #[.pointer (some ⟨gS, 0, none⟩), .agg #[.int .i64 o.kind, .string o.nm, .string o.dt, .int .i64 o.keep]] w (Ret w (.int .i64 er)) := by
  have HC := Lib.hid (sep_cnt H 1 rfl)
  obtain ⟨kind, nm, dt, keep⟩ := o
  have H1 := H.new 56 [.int .i64 kind, .string nm, .string dt, .int .i64 keep]
  have hbx : (sC gS gn gd A n c :: fm gn nn (now D C) :: (R ++ [oC w.heap.size ⟨kind, nm, dt, keep⟩]))[R.length + 2]? = some (oC w.heap.size ⟨kind, nm, dt, keep⟩) := by simp
  have HB1 := Lib.hid ((Below.refl w.heap.size w).alloc (Nat.le_refl _) (.cells #[.int .i64 kind, .string nm, .string dt, .int .i64 keep] 56))
  have hmn : (nn : Int) ≤ 9223372036854775807 := by unfold maxLen at hnn; omega
  obtain ⟨v, hv⟩ : ∃ v, now D C nm = v := ⟨_, rfl⟩
  simp only at hsz hdt
  have l1 : ∀ z : LaterOf (w.alloc (.cells #[.int .i64 kind, .string nm, .string dt, .int .i64 keep] 56)), (Instr.lookup 67 (.map (some gn)) (.string nm) true).run Tryz.prog z.w = .ok (.tuple #[v.elim (.string ⟨#[]⟩) Value.string, .bool v.isSome]) z.w := fun z => by
    rw [← hv]
    exact (H1.later z.h).look2 1 rfl kstr hsz Tryz.underlying67 (sz _)
  have c0 := fun z : LaterOf (w.alloc (.cells #[.int .i64 kind, .string nm, .string dt, .int .i64 keep] 56)) => (H1.later z.h).cell 0 rfl (k := 0) rfl
  have e1 := fun z : LaterOf (w.alloc (.cells #[.int .i64 kind, .string nm, .string dt, .int .i64 keep] 56)) => (H1.later z.h).cell (R.length + 2) hbx (k := 1) rfl
  have HS1 : Hid (Sep w0 (w.alloc (.cells #[.int .i64 kind, .string nm, .string dt, .int .i64 keep] 56)) (sC gS gn gd A n c :: fm gn nn (now D C) :: (R ++ [oC w.heap.size ⟨kind, nm, dt, keep⟩]))) := Lib.hid H1
  clear H H1 hnn
  go_enter Tryz.func33, Tryz.ntmps33
  go_upto_region 1 with (fail)
  generalize w.alloc (.cells #[.int .i64 kind, .string nm, .string dt, .int .i64 keep] 56) = w1 at HS1 HB1 l1 c0 e1 ⊢
  generalize w.heap.size = gx at HS1 l1 c0 e1 hbx ⊢
  refine wp_region_later (by kernel_rfl) (by kernel_rfl) ?_
  repeat (go_big_quiet_step (fail))
  refine wpQuiet_nil ?_; intro xw hw'; obtain ⟨xq, hw''⟩ := hw'; obtain ⟨xw0, xh⟩ := xq; change xw = xw0 at hw''; subst hw''
  have HS2 := Lib.hid (HS1.out.later xh)
  have HB2 := Lib.hid (HB1.out.trans (xh.mono HB1.out.size))
  have e0 := HS2.out.cell (R.length + 2) hbx (k := 0) rfl
  have e1 := HS2.out.cell (R.length + 2) hbx (k := 1) rfl
  have e2 := HS2.out.cell (R.length + 2) hbx (k := 2) rfl
  have e3 := HS2.out.cell (R.length + 2) hbx (k := 3) rfl
  have c0 := HS2.out.cell 0 rfl (k := 0) rfl
  have hml := fun ty => HS2.out.mapLen 1 rfl Tryz.underlying67 ty
  simp only at e0 e1 e2 e3
  clear HS1 HB1 xh hbx l1
  cases hw with
  | low h =>
    simp only at h
    have k1 : (kind == 1) = false := by simp; omega
    have k2 : (kind == 2) = false := by simp; omega
    have k3 : (kind == 3) = false := by simp; omega
    have k4 : (kind == 4) = false := by simp; omega
    have k5 : (kind == 5) = false := by simp; omega
    clear h
    go_wp2
    go_ret
    exact Ret.mk rfl HB2.out
  | high h =>
    simp only at h
    have k1 : (kind == 1) = false := by simp; omega
    have k2 : (kind == 2) = false := by simp; omega
    have k3 : (kind == 3) = false := by simp; omega
    have k4 : (kind == 4) = false := by simp; omega
    have k5 : (kind == 5) = false := by simp; omega
    clear h
    go_wp2
    go_ret
    exact Ret.mk rfl HB2.out
  | bad h h1 =>
    simp only at h h1
    subst h
    have cG := Lib.hid (fun W => dgood_any nm false W ⟨fun e => absurd e (by decide), fun e => absurd e h1⟩)
    clear h1
    go_wp2_with fail
    refine (cG.out _).mono ?_; rintro en w3 ⟨rfl, hb3⟩
    have HS3 := Lib.hid (HS2.out.later hb3)
    have HB3 := Lib.hid (HB2.out.trans (hb3.mono HB2.out.size))
    have hbx : (sC gS gn gd A n c :: fm gn nn (now D C) :: (R ++ [oC gx ⟨1, nm, dt, keep⟩]))[R.length + 2]? = some (oC gx ⟨1, nm, dt, keep⟩) := by simp
    have e0 := HS3.out.cell (R.length + 2) hbx (k := 0) rfl
    have e1 := HS3.out.cell (R.length + 2) hbx (k := 1) rfl
    have e2 := HS3.out.cell (R.length + 2) hbx (k := 2) rfl
    have e3 := HS3.out.cell (R.length + 2) hbx (k := 3) rfl
    have c0 := HS3.out.cell 0 rfl (k := 0) rfl
    have hml := fun ty => HS3.out.mapLen 1 rfl Tryz.underlying67 ty
    simp only at e0 e1 e2 e3
    clear hb3 cG hbx HS2 HB2
    go_wp2
    go_ret
    exact Ret.mk rfl HB3.out
  | long h h1 h2 =>
    simp only at h h1 h2
    subst h
    have cG := Lib.hid (fun W => dgood_any nm true W ⟨fun _ => h1, fun _ => rfl⟩)
    have i2 : (200 : Int) < (dt.size : Int) := by omega
    clear h1 h2
    go_wp2_with fail
    refine (cG.out _).mono ?_; rintro en w3 ⟨rfl, hb3⟩
    have HS3 := Lib.hid (HS2.out.later hb3)
    have HB3 := Lib.hid (HB2.out.trans (hb3.mono HB2.out.size))
    have hbx : (sC gS gn gd A n c :: fm gn nn (now D C) :: (R ++ [oC gx ⟨1, nm, dt, keep⟩]))[R.length + 2]? = some (oC gx ⟨1, nm, dt, keep⟩) := by simp
    have e0 := HS3.out.cell (R.length + 2) hbx (k := 0) rfl
    have e1 := HS3.out.cell (R.length + 2) hbx (k := 1) rfl
    have e2 := HS3.out.cell (R.length + 2) hbx (k := 2) rfl
    have e3 := HS3.out.cell (R.length + 2) hbx (k := 3) rfl
    have c0 := HS3.out.cell 0 rfl (k := 0) rfl
    have hml := fun ty => HS3.out.mapLen 1 rfl Tryz.underlying67 ty
    simp only at e0 e1 e2 e3
    clear hb3 cG hbx HS2 HB2
    go_wp2
    go_ret
    exact Ret.mk rfl HB3.out
  | full h h1 h2 h3 m h4 h5 =>
    simp only at h h1 h2 h3
    subst h
    rw [hv] at h3
    subst h3
    obtain rfl := cnt_one HC.out h4
    have cG := Lib.hid (fun W => dgood_any nm true W ⟨fun _ => h1, fun _ => rfl⟩)
    have i2 : ¬ (200 : Int) < (dt.size : Int) := by omega
    have i3 : (8 : Int) ≤ (nn : Int) := by omega
    clear h1 h2 h4 h5 hv
    go_wp2_with fail
    refine (cG.out _).mono ?_; rintro en w3 ⟨rfl, hb3⟩
    have HS3 := Lib.hid (HS2.out.later hb3)
    have HB3 := Lib.hid (HB2.out.trans (hb3.mono HB2.out.size))
    have hbx : (sC gS gn gd A n c :: fm gn nn (now D C) :: (R ++ [oC gx ⟨1, nm, dt, keep⟩]))[R.length + 2]? = some (oC gx ⟨1, nm, dt, keep⟩) := by simp
    have e0 := HS3.out.cell (R.length + 2) hbx (k := 0) rfl
    have e1 := HS3.out.cell (R.length + 2) hbx (k := 1) rfl
    have e2 := HS3.out.cell (R.length + 2) hbx (k := 2) rfl
    have e3 := HS3.out.cell (R.length + 2) hbx (k := 3) rfl
    have c0 := HS3.out.cell 0 rfl (k := 0) rfl
    have hml := fun ty => HS3.out.mapLen 1 rfl Tryz.underlying67 ty
    simp only at e0 e1 e2 e3
    clear hb3 cG hbx HS2 HB2
    go_wp2
    go_ret
    exact Ret.mk rfl HB3.out
  | fresh h h1 h2 h3 m h4 h5 =>
    simp only at h h1 h2 h3
    subst h
    rw [hv] at h3
    subst h3
    obtain rfl := cnt_one HC.out h4
    have cG := Lib.hid (fun W => dgood_any nm true W ⟨fun _ => h1, fun _ => rfl⟩)
    have i2 : ¬ (200 : Int) < (dt.size : Int) := by omega
    have i3 : ¬ (8 : Int) ≤ (nn : Int) := by omega
    clear h1 h2 h4 h5 hv
    go_wp2_with fail
    refine (cG.out _).mono ?_; rintro en w3 ⟨rfl, hb3⟩
    have HS3 := Lib.hid (HS2.out.later hb3)
    have HB3 := Lib.hid (HB2.out.trans (hb3.mono HB2.out.size))
    have hbx : (sC gS gn gd A n c :: fm gn nn (now D C) :: (R ++ [oC gx ⟨1, nm, dt, keep⟩]))[R.length + 2]? = some (oC gx ⟨1, nm, dt, keep⟩) := by simp
    have e0 := HS3.out.cell (R.length + 2) hbx (k := 0) rfl
    have e1 := HS3.out.cell (R.length + 2) hbx (k := 1) rfl
    have e2 := HS3.out.cell (R.length + 2) hbx (k := 2) rfl
    have e3 := HS3.out.cell (R.length + 2) hbx (k := 3) rfl
    have c0 := HS3.out.cell 0 rfl (k := 0) rfl
    have hml := fun ty => HS3.out.mapLen 1 rfl Tryz.underlying67 ty
    simp only at e0 e1 e2 e3
    clear hb3 cG hbx HS2 HB2
    go_wp2
    go_ret
    exact Ret.mk rfl HB3.out
  | over h h1 h2 x h3 =>
    simp only at h h1 h2 h3
    subst h
    rw [hv] at h3
    subst h3
    have cG := Lib.hid (fun W => dgood_any nm true W ⟨fun _ => h1, fun _ => rfl⟩)
    have i2 : ¬ (200 : Int) < (dt.size : Int) := by omega
    clear h1 h2 hv
    go_wp2_with fail
    refine (cG.out _).mono ?_; rintro en w3 ⟨rfl, hb3⟩
    have HS3 := Lib.hid (HS2.out.later hb3)
    have HB3 := Lib.hid (HB2.out.trans (hb3.mono HB2.out.size))
    have hbx : (sC gS gn gd A n c :: fm gn nn (now D C) :: (R ++ [oC gx ⟨1, nm, dt, keep⟩]))[R.length + 2]? = some (oC gx ⟨1, nm, dt, keep⟩) := by simp
    have e0 := HS3.out.cell (R.length + 2) hbx (k := 0) rfl
    have e1 := HS3.out.cell (R.length + 2) hbx (k := 1) rfl
    have e2 := HS3.out.cell (R.length + 2) hbx (k := 2) rfl
    have e3 := HS3.out.cell (R.length + 2) hbx (k := 3) rfl
    have c0 := HS3.out.cell 0 rfl (k := 0) rfl
    have hml := fun ty => HS3.out.mapLen 1 rfl Tryz.underlying67 ty
    simp only at e0 e1 e2 e3
    clear hb3 cG hbx HS2 HB2
    go_wp2
    go_ret
    exact Ret.mk rfl HB3.out
  | none2 h h3 =>
    simp only at h h3
    subst h
    rw [hv] at h3
    subst h3
    clear hv
    go_wp2
    go_ret
    exact Ret.mk rfl HB2.out
  | none3 h h3 =>
    simp only at h h3
    subst h
    rw [hv] at h3
    subst h3
    clear hv
    go_wp2
    go_ret
    exact Ret.mk rfl HB2.out
  | remove h x h3 =>
    simp only at h h3
    subst h
    rw [hv] at h3
    subst h3
    clear hv
    go_wp2
    go_ret
    exact Ret.mk rfl HB2.out
  | read h x h3 =>
    simp only at h h3
    subst h
    rw [hv] at h3
    subst h3
    clear hv
    go_wp2
    go_ret
    exact Ret.mk rfl HB2.out
  | sync h =>
    simp only at h
    subst h
    go_wp2
    go_ret
    exact Ret.mk rfl HB2.out
  | before h h1 =>
    simp only at h h1
    subst h
    go_wp2
    go_ret
    exact Ret.mk rfl HB2.out
  | crash h k h1 h2 =>
    simp only at h h1
    subst h
    have i3 : ¬ keep < 0 := by omega
    clear h2
    go_wp2
    go_ret
    exact Ret.mk rfl HB2.out
end So
end Go.Proofs.YtgfldhdmdeeknaaGreatDoor
