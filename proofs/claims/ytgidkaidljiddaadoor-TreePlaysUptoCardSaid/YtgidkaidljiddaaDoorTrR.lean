/-
  Walks of the reference's closures: below, fresh. Conditions: none beyond each theorem's own premises.
-/
import Derived.Test.YtgidkaidljiddaaDoorTrW4
import Derived.Test.YtgidkaidljiddaaDoorPtS
import Derived.Test.YtgidkaidljiddaaDoorPtL
import Derived.Test.YtgidkaidljiddaaDoorDrGo
import Derived.BigRegion
namespace Go.Proofs.YtgidkaidljiddaaDoor
open Go.RowKit Go.Shelf
set_option linter.unusedVariables false
namespace Tr
open Dr Pt

abbrev rmap (g n : Nat) (h : ByteArray → Option Int) : It := .map Tryd.prog 9 Value.string (Value.int .i64) g n h
theorem szr (w : World) : (zeroValue 3).run Tryd.prog w = .ok (.int .i64 0) w := by kernel_rfl

theorem sumL_mem : ∀ {l : List By} {x : By}, x ∈ l → x.length ≤ sumL l
  | [], _, h => by cases h
  | y :: l, x, h => by
    have e : sumL (y :: l) = y.length + sumL l := by simp [sumL]
    rw [e]
    rcases List.mem_cons.1 h with rfl | h
    · omega
    · have := sumL_mem h; omega

set_option maxRecDepth 100000 in
set_option maxHeartbeats 1600000 in
theorem rbelow_any (l m : List By) (b : Bool) (hb : b = true ↔ l <+: m) (hl : Cl l) (hm : Cl m) (hs : (ppath l).length ≤ 1048577) (hs' : (ppath m).length ≤ 9223372036854775800) (w : World) :
    Calls Tryd.prog 11 #[.string (P m), .string (P l)] w (fun e w' => e = .returned (.bool b) ∧ w' = w) := by
  by_cases h0 : l = []
  · subst h0
    obtain rfl : b = true := hb.2 (List.nil_prefix)
    have z1 := P_root
    clear hb hl hm hs hs'
    go_enter Tryd.func11, Tryd.ntmps11
    go_wp2
    go_ret
    exact ⟨rfl, rfl⟩
  · have z1 := P_notroot hl h0
    have e : decide ((ppath l ++ [47]) <+: (ppath m ++ [47])) = b := by
      rw [Bool.eq_iff_iff, hb, decide_eq_true_iff, within_iff hm hl h0]
    have cP := Lib.hid (pre_any (ppath m ++ [47]) (ppath l ++ [47]) w)
    rw [e, ← kb_slash, ← kb_slash] at cP
    have cQ : Hid (Calls Tryd.prog 12 #[.string (P m ++ ⟨#[47]⟩), .string (P l ++ ⟨#[47]⟩)] w (fun e w' => e = .returned (.bool b) ∧ w' = w)) := cP
    have z2 : (P m).size + 1 ≤ 9223372036854775807 := by rw [P_size]; omega
    have z3 : (P l).size + 1 ≤ 9223372036854775807 := by rw [P_size]; omega
    clear hb hl hm hs hs' h0 e cP
    go_enter Tryd.func11, Tryd.ntmps11
    go_wp2_with fail
    refine cQ.out.mono ?_; rintro en w1 ⟨rfl, rfl⟩
    go_wp2
    go_ret
    exact ⟨rfl, rfl⟩

/-- what the reference keeps of a node: nothing of a folder, a file's number -/
structure RV (F : Nat → Bool) (V : Nat → Int) (nn : Nat) (files : Int) : Prop where
  fold : ∀ a, a < nn → F a = true → V a = 0
  pos : ∀ a, a < nn → F a = false → 0 < V a
  le : ∀ a, a < nn → V a ≤ files
  low : 0 ≤ files
  inj : ∀ a b, a < nn → b < nn → F a = false → V a = V b → a = b

set_option maxRecDepth 100000 in
set_option maxHeartbeats 3200000 in
theorem rfresh_any (w0 w : World) (L : List It) (i j gt gm n : Nat) (h : ByteArray → Option Int) (V : Nat → Int) (F : Nat → Bool) (nn : Nat) (files : Int) (H : Tree) (l : List By) (e : Int)
    (hS : Sep w0 w L) (hi : L[i]? = some (.cells gt 47 [.map (some gm)])) (hj : L[j]? = some (rmap gm n h)) (T : Tab H V h) (I : TI H F nn) (hV : RV F V nn files) (hf : Fr H F l e) (hl : Cl l) (hs : (ppath l).length ≤ 1048577) :
    Calls Tryd.prog 13 #[.string (P l), .pointer (some ⟨gt, 0, none⟩)] w (Ret w (.int .i64 e)) := by
  obtain ⟨ti, hti, t0, t1, t2⟩ := info_parts string_info
  have cP : Hid (Calls Tryd.prog 14 #[.string (P l)] w (SliceRet w 9 1 l.length (l.flatMap sc))) := Lib.hid (by
    have h := pparts_any (ppath l) (by omega) w
    rw [parts_ppath l hl] at h
    exact h)
  have hsum : sumL l + l.length ≤ 1048578 := by
    have h := parts_sum (ppath l)
    rw [parts_ppath l hl] at h
    omega
  obtain ⟨N, hN⟩ : ∃ N, l.length = N := ⟨_, rfl⟩
  rw [hN] at cP hsum
  have HN := Lib.hid hN
  have HSUM := Lib.hid hsum
  have k1 : (P l).size ≤ maxLen := by rw [P_size]; simp only [maxLen]; omega
  have k2 : (P (par l)).size ≤ maxLen := by have := par_le l; rw [P_size]; simp only [maxLen]; omega
  have t1' := tab_look T hl
  have t2' := tab_look T (show Cl (par l) from fun x hx => hl x (List.mem_of_mem_take hx))
  have L1 := Lib.hid (fun (W : World) (hW : Sep w0 W L) => hW.look2 j hj kstr k1 Tryd.underlying47 (szr W))
  have L2 := Lib.hid (fun (W : World) (hW : Sep w0 W L) => hW.look2 j hj kstr k2 Tryd.underlying47 (szr W))
  rw [t1'] at L1
  rw [t2'] at L2
  have C0 := Lib.hid (fun (W : World) (hW : Sep w0 W L) => hW.cell i hi (k := 0) rfl)
  have CW : Hid (∀ A c (W : World), Rd W W.heap.size 1 A N (l.flatMap sc) → Calls Tryd.prog 15 #[.slice A N c] W (Ret W (.string (P l)))) := Lib.hid (fun A c W hr => ppath_any A N c l W hr HN.out (by rw [HN.out]; omega))
  have HS := Lib.hid hS
  have HLow : Hid (∀ a, H (par l) = some a → a < nn) := Lib.hid (fun a ha => I.low _ a ha)
  have HLow1 : Hid (∀ a, H l = some a → a < nn) := Lib.hid (fun a ha => I.low _ a ha)
  have HVV := Lib.hid hV
  have HL0 : Hid (H l = none → l ≠ []) := Lib.hid (fun h e => by obtain ⟨r, hr, _⟩ := I.root; rw [e, hr] at h; cases h)
  clear hS hi hj T I hV hl hs hN k1 k2 t1' t2'
  cases hf with
  | @held a h1 =>
    rw [h1] at L1
    simp only [Option.map, Option.elim, Option.isSome] at L1
    go_enter Tryd.func13, Tryd.ntmps13
    go_wp2_with fail
    refine cP.out.mono ?_; rintro en w1 ⟨A, c, hnc, rfl, hs1⟩
    have HB1 := Lib.hid hs1.below
    have HR1 := Lib.hid (hs1.rd 0 rfl)
    clear hs1 cP
    have c0 := fun z : LaterOf w1 => C0.out z.w ((HS.out.later HB1.out).later z.h)
    have l1 := fun z : LaterOf w1 => L1.out z.w ((HS.out.later HB1.out).later z.h)
    have dW := Lib.hid (fun z : LaterOf w1 => CW.out A c z.w (HR1.out.later z.h))
    go_upto_region 2 with (fail)
    refine wp_region_later (by kernel_rfl) (by kernel_rfl) ?_
    repeat (go_big_quiet_step (with_reducible exact Calls.later (dW.out _)))
    refine wpQuiet_nil ?_; intro xw hw'; obtain ⟨xq, hw''⟩ := hw'; obtain ⟨xw0, xh⟩ := xq; change xw = xw0 at hw''; subst hw''
    clear c0 l1 dW
    go_wp2
    go_ret
    exact Ret.mk rfl (HB1.out.trans (xh.mono HB1.out.size))
  | none h1 h2 =>
    rw [h1] at L1
    rw [h2] at L2
    simp only [Option.map, Option.elim, Option.isSome] at L1 L2
    go_enter Tryd.func13, Tryd.ntmps13
    go_wp2_with fail
    refine cP.out.mono ?_; rintro en w1 ⟨A, c, hnc, rfl, hs1⟩
    have HB1 := Lib.hid hs1.below
    have HR1 := Lib.hid (hs1.rd 0 rfl)
    clear hs1 cP
    have c0 := fun z : LaterOf w1 => C0.out z.w ((HS.out.later HB1.out).later z.h)
    have l1 := fun z : LaterOf w1 => L1.out z.w ((HS.out.later HB1.out).later z.h)
    have dW := Lib.hid (fun z : LaterOf w1 => CW.out A c z.w (HR1.out.later z.h))
    go_upto_region 2 with (fail)
    refine wp_region_later (by kernel_rfl) (by kernel_rfl) ?_
    repeat (go_big_quiet_step (with_reducible exact Calls.later (dW.out _)))
    refine wpQuiet_nil ?_; intro xw hw'; obtain ⟨xq, hw''⟩ := hw'; obtain ⟨xw0, xh⟩ := xq; change xw = xw0 at hw''; subst hw''
    clear c0 l1 dW
    have HB2 := Lib.hid (HB1.out.trans (xh.mono HB1.out.size))
    have HR2 := Lib.hid (HR1.out.later xh)
    clear xh HB1 HR1 CW L1
    generalize xw = w2 at HB2 HR2 ⊢
    have hl0 := HL0.out h1
    obtain ⟨m, hm⟩ : ∃ m, N = m + 1 := ⟨N - 1, by have h := HN.out; have h2 := List.length_pos_iff.2 hl0; omega⟩
    have HM := Lib.hid hm
    have he : (N : Int) - 1 = (m : Int) := by omega
    have hwm : wrap64 (m : Int) = (m : Int) := by unfold wrap64; omega
    have hsl : ∀ W, (Instr.slice 42 (.slice A N c) none (some (.int .i64 (m : Int))) none).run Tryd.prog W = .ok (.slice A m c) W := fun W => upto_run Tryd.underlying42 (size_of_info hti t1) _ N c m (by omega) W
    have HPR : Hid (par l = l.take m) := Lib.hid (by unfold par; rw [HN.out, hm]; rfl)
    have CV : Hid (∀ (W : World), Rd W W.heap.size 1 A N (l.flatMap sc) → Calls Tryd.prog 15 #[.slice A m c] W (Ret W (.string (P (par l))))) := Lib.hid (fun W hr => by
      have h := ppath_any A m c (l.take m) W (take_rd hr (by have := HM.out; omega)) (by rw [List.length_take, HN.out]; have := HM.out; omega) (by have := sumL_take l m; rw [List.length_take, HN.out]; have := HM.out; omega)
      rw [HPR.out]
      exact h)
    have c0 := fun z : LaterOf w2 => C0.out z.w ((HS.out.later HB2.out).later z.h)
    have l2 := fun z : LaterOf w2 => L2.out z.w ((HS.out.later HB2.out).later z.h)
    have dW := Lib.hid (fun z : LaterOf w2 => CV.out z.w (HR2.out.later z.h))
    clear hm hl0 hsum
    go_upto_region 5 with (fail)
    refine wp_region_later (by kernel_rfl) (by kernel_rfl) ?_
    repeat (go_big_quiet_step (with_reducible exact Calls.later (dW.out _)))
    refine wpQuiet_nil ?_; intro xw hw'; obtain ⟨xq, hw''⟩ := hw'; obtain ⟨xw0, xh⟩ := xq; change xw = xw0 at hw''; subst hw''
    have HB3 := Lib.hid (HB2.out.trans (xh.mono HB2.out.size))
    have HR3 := Lib.hid (HR2.out.later xh)
    clear c0 l2 dW hsl xh HB2 HR2 CV
    generalize xw = w3 at HB3 HR3 ⊢
    go_wp2
    go_ret
    exact Ret.mk rfl HB3.out
  | @form a h1 h2 h3 =>
    rw [h1] at L1
    rw [h2] at L2
    simp only [Option.map, Option.elim, Option.isSome] at L1 L2
    have v1 : V a > 0 := HVV.out.pos a (HLow.out a h2) h3
    go_enter Tryd.func13, Tryd.ntmps13
    go_wp2_with fail
    refine cP.out.mono ?_; rintro en w1 ⟨A, c, hnc, rfl, hs1⟩
    have HB1 := Lib.hid hs1.below
    have HR1 := Lib.hid (hs1.rd 0 rfl)
    clear hs1 cP
    have c0 := fun z : LaterOf w1 => C0.out z.w ((HS.out.later HB1.out).later z.h)
    have l1 := fun z : LaterOf w1 => L1.out z.w ((HS.out.later HB1.out).later z.h)
    have dW := Lib.hid (fun z : LaterOf w1 => CW.out A c z.w (HR1.out.later z.h))
    go_upto_region 2 with (fail)
    refine wp_region_later (by kernel_rfl) (by kernel_rfl) ?_
    repeat (go_big_quiet_step (with_reducible exact Calls.later (dW.out _)))
    refine wpQuiet_nil ?_; intro xw hw'; obtain ⟨xq, hw''⟩ := hw'; obtain ⟨xw0, xh⟩ := xq; change xw = xw0 at hw''; subst hw''
    clear c0 l1 dW
    have HB2 := Lib.hid (HB1.out.trans (xh.mono HB1.out.size))
    have HR2 := Lib.hid (HR1.out.later xh)
    clear xh HB1 HR1 CW L1
    generalize xw = w2 at HB2 HR2 ⊢
    have hl0 := HL0.out h1
    obtain ⟨m, hm⟩ : ∃ m, N = m + 1 := ⟨N - 1, by have h := HN.out; have h2 := List.length_pos_iff.2 hl0; omega⟩
    have HM := Lib.hid hm
    have he : (N : Int) - 1 = (m : Int) := by omega
    have hwm : wrap64 (m : Int) = (m : Int) := by unfold wrap64; omega
    have hsl : ∀ W, (Instr.slice 42 (.slice A N c) none (some (.int .i64 (m : Int))) none).run Tryd.prog W = .ok (.slice A m c) W := fun W => upto_run Tryd.underlying42 (size_of_info hti t1) _ N c m (by omega) W
    have HPR : Hid (par l = l.take m) := Lib.hid (by unfold par; rw [HN.out, hm]; rfl)
    have CV : Hid (∀ (W : World), Rd W W.heap.size 1 A N (l.flatMap sc) → Calls Tryd.prog 15 #[.slice A m c] W (Ret W (.string (P (par l))))) := Lib.hid (fun W hr => by
      have h := ppath_any A m c (l.take m) W (take_rd hr (by have := HM.out; omega)) (by rw [List.length_take, HN.out]; have := HM.out; omega) (by have := sumL_take l m; rw [List.length_take, HN.out]; have := HM.out; omega)
      rw [HPR.out]
      exact h)
    have c0 := fun z : LaterOf w2 => C0.out z.w ((HS.out.later HB2.out).later z.h)
    have l2 := fun z : LaterOf w2 => L2.out z.w ((HS.out.later HB2.out).later z.h)
    have dW := Lib.hid (fun z : LaterOf w2 => CV.out z.w (HR2.out.later z.h))
    clear hm hl0 hsum
    go_upto_region 5 with (fail)
    refine wp_region_later (by kernel_rfl) (by kernel_rfl) ?_
    repeat (go_big_quiet_step (with_reducible exact Calls.later (dW.out _)))
    refine wpQuiet_nil ?_; intro xw hw'; obtain ⟨xq, hw''⟩ := hw'; obtain ⟨xw0, xh⟩ := xq; change xw = xw0 at hw''; subst hw''
    have HB3 := Lib.hid (HB2.out.trans (xh.mono HB2.out.size))
    have HR3 := Lib.hid (HR2.out.later xh)
    clear c0 l2 dW hsl xh HB2 HR2 CV
    generalize xw = w3 at HB3 HR3 ⊢
    go_wp2
    go_ret
    exact Ret.mk rfl HB3.out
  | @range a h1 h2 h3 h4 =>
    rw [h1] at L1
    rw [h2, Option.map, HVV.out.fold a (HLow.out a h2) h3] at L2
    simp only [Option.map, Option.elim, Option.isSome] at L1 L2
    have cG := Lib.hid (fun W => ogood_any (kb (nam l)) false W)
    have HG4 := Lib.hid h4
    go_enter Tryd.func13, Tryd.ntmps13
    go_wp2_with fail
    refine cP.out.mono ?_; rintro en w1 ⟨A, c, hnc, rfl, hs1⟩
    have HB1 := Lib.hid hs1.below
    have HR1 := Lib.hid (hs1.rd 0 rfl)
    clear hs1 cP
    have c0 := fun z : LaterOf w1 => C0.out z.w ((HS.out.later HB1.out).later z.h)
    have l1 := fun z : LaterOf w1 => L1.out z.w ((HS.out.later HB1.out).later z.h)
    have dW := Lib.hid (fun z : LaterOf w1 => CW.out A c z.w (HR1.out.later z.h))
    go_upto_region 2 with (fail)
    refine wp_region_later (by kernel_rfl) (by kernel_rfl) ?_
    repeat (go_big_quiet_step (with_reducible exact Calls.later (dW.out _)))
    refine wpQuiet_nil ?_; intro xw hw'; obtain ⟨xq, hw''⟩ := hw'; obtain ⟨xw0, xh⟩ := xq; change xw = xw0 at hw''; subst hw''
    clear c0 l1 dW
    have HB2 := Lib.hid (HB1.out.trans (xh.mono HB1.out.size))
    have HR2 := Lib.hid (HR1.out.later xh)
    clear xh HB1 HR1 CW L1
    generalize xw = w2 at HB2 HR2 ⊢
    have hl0 := HL0.out h1
    obtain ⟨m, hm⟩ : ∃ m, N = m + 1 := ⟨N - 1, by have h := HN.out; have h2 := List.length_pos_iff.2 hl0; omega⟩
    have HM := Lib.hid hm
    have he : (N : Int) - 1 = (m : Int) := by omega
    have hwm : wrap64 (m : Int) = (m : Int) := by unfold wrap64; omega
    have hsl : ∀ W, (Instr.slice 42 (.slice A N c) none (some (.int .i64 (m : Int))) none).run Tryd.prog W = .ok (.slice A m c) W := fun W => upto_run Tryd.underlying42 (size_of_info hti t1) _ N c m (by omega) W
    have HPR : Hid (par l = l.take m) := Lib.hid (by unfold par; rw [HN.out, hm]; rfl)
    have CV : Hid (∀ (W : World), Rd W W.heap.size 1 A N (l.flatMap sc) → Calls Tryd.prog 15 #[.slice A m c] W (Ret W (.string (P (par l))))) := Lib.hid (fun W hr => by
      have h := ppath_any A m c (l.take m) W (take_rd hr (by have := HM.out; omega)) (by rw [List.length_take, HN.out]; have := HM.out; omega) (by have := sumL_take l m; rw [List.length_take, HN.out]; have := HM.out; omega)
      rw [HPR.out]
      exact h)
    have c0 := fun z : LaterOf w2 => C0.out z.w ((HS.out.later HB2.out).later z.h)
    have l2 := fun z : LaterOf w2 => L2.out z.w ((HS.out.later HB2.out).later z.h)
    have dW := Lib.hid (fun z : LaterOf w2 => CV.out z.w (HR2.out.later z.h))
    clear hm hl0 hsum
    go_upto_region 5 with (fail)
    refine wp_region_later (by kernel_rfl) (by kernel_rfl) ?_
    repeat (go_big_quiet_step (with_reducible exact Calls.later (dW.out _)))
    refine wpQuiet_nil ?_; intro xw hw'; obtain ⟨xq, hw''⟩ := hw'; obtain ⟨xw0, xh⟩ := xq; change xw = xw0 at hw''; subst hw''
    have HB3 := Lib.hid (HB2.out.trans (xh.mono HB2.out.size))
    have HR3 := Lib.hid (HR2.out.later xh)
    clear c0 l2 dW hsl xh HB2 HR2 CV
    generalize xw = w3 at HB3 HR3 ⊢
    have hmN : m < N := by have := HM.out; omega
    obtain ⟨b, off, hA, hb, hc⟩ := HR3.out.at_ sc_len (by omega)
    obtain ⟨u, hu⟩ : ∃ u, l[m]? = some u := ⟨_, List.getElem?_eq_getElem (by rw [HN.out]; exact hmN)⟩
    have hnm : nam l = u := by unfold nam; rw [HN.out, show N - 1 = m by have := HM.out; omega, hu]; rfl
    subst hA
    have e0' : w3.cell? ⟨b, off + m, none⟩ = some (.string (bs u)) := by simpa using hc m 0 u _ hu rfl
    have e0 : w3.cell? ⟨b, off + m, none⟩ = some (.string (kb (nam l))) := by rw [hnm]; exact e0'
    have i0 : (0 : Int) ≤ (m : Int) := by omega
    have i1 : (m : Int) < (N : Int) := by omega
    have cG1 := Lib.hid (cG.out w3 (by
      have h := HR3.out
      have hlen : u.length ≤ sumL l := sumL_mem (List.mem_of_getElem? hu)
      have := HSUM.out
      rw [hnm]
      show u.length ≤ _
      omega) ⟨fun h => absurd h (by decide), fun h => absurd h HG4.out⟩)
    clear hc hb hu hnm cG e0'
    go_wp2_with fail
    refine cG1.out.mono ?_; rintro en w4 ⟨rfl, hb4⟩
    have HB4 := Lib.hid (HB3.out.trans (hb4.mono HB3.out.size))
    clear hb4 cG1
    go_wp2
    go_ret
    exact Ret.mk rfl HB4.out
  | @ok a h1 h2 h3 h4 =>
    rw [h1] at L1
    rw [h2, Option.map, HVV.out.fold a (HLow.out a h2) h3] at L2
    simp only [Option.map, Option.elim, Option.isSome] at L1 L2
    have cG := Lib.hid (fun W => ogood_any (kb (nam l)) true W)
    have HG4 := Lib.hid h4
    go_enter Tryd.func13, Tryd.ntmps13
    go_wp2_with fail
    refine cP.out.mono ?_; rintro en w1 ⟨A, c, hnc, rfl, hs1⟩
    have HB1 := Lib.hid hs1.below
    have HR1 := Lib.hid (hs1.rd 0 rfl)
    clear hs1 cP
    have c0 := fun z : LaterOf w1 => C0.out z.w ((HS.out.later HB1.out).later z.h)
    have l1 := fun z : LaterOf w1 => L1.out z.w ((HS.out.later HB1.out).later z.h)
    have dW := Lib.hid (fun z : LaterOf w1 => CW.out A c z.w (HR1.out.later z.h))
    go_upto_region 2 with (fail)
    refine wp_region_later (by kernel_rfl) (by kernel_rfl) ?_
    repeat (go_big_quiet_step (with_reducible exact Calls.later (dW.out _)))
    refine wpQuiet_nil ?_; intro xw hw'; obtain ⟨xq, hw''⟩ := hw'; obtain ⟨xw0, xh⟩ := xq; change xw = xw0 at hw''; subst hw''
    clear c0 l1 dW
    have HB2 := Lib.hid (HB1.out.trans (xh.mono HB1.out.size))
    have HR2 := Lib.hid (HR1.out.later xh)
    clear xh HB1 HR1 CW L1
    generalize xw = w2 at HB2 HR2 ⊢
    have hl0 := HL0.out h1
    obtain ⟨m, hm⟩ : ∃ m, N = m + 1 := ⟨N - 1, by have h := HN.out; have h2 := List.length_pos_iff.2 hl0; omega⟩
    have HM := Lib.hid hm
    have he : (N : Int) - 1 = (m : Int) := by omega
    have hwm : wrap64 (m : Int) = (m : Int) := by unfold wrap64; omega
    have hsl : ∀ W, (Instr.slice 42 (.slice A N c) none (some (.int .i64 (m : Int))) none).run Tryd.prog W = .ok (.slice A m c) W := fun W => upto_run Tryd.underlying42 (size_of_info hti t1) _ N c m (by omega) W
    have HPR : Hid (par l = l.take m) := Lib.hid (by unfold par; rw [HN.out, hm]; rfl)
    have CV : Hid (∀ (W : World), Rd W W.heap.size 1 A N (l.flatMap sc) → Calls Tryd.prog 15 #[.slice A m c] W (Ret W (.string (P (par l))))) := Lib.hid (fun W hr => by
      have h := ppath_any A m c (l.take m) W (take_rd hr (by have := HM.out; omega)) (by rw [List.length_take, HN.out]; have := HM.out; omega) (by have := sumL_take l m; rw [List.length_take, HN.out]; have := HM.out; omega)
      rw [HPR.out]
      exact h)
    have c0 := fun z : LaterOf w2 => C0.out z.w ((HS.out.later HB2.out).later z.h)
    have l2 := fun z : LaterOf w2 => L2.out z.w ((HS.out.later HB2.out).later z.h)
    have dW := Lib.hid (fun z : LaterOf w2 => CV.out z.w (HR2.out.later z.h))
    clear hm hl0 hsum
    go_upto_region 5 with (fail)
    refine wp_region_later (by kernel_rfl) (by kernel_rfl) ?_
    repeat (go_big_quiet_step (with_reducible exact Calls.later (dW.out _)))
    refine wpQuiet_nil ?_; intro xw hw'; obtain ⟨xq, hw''⟩ := hw'; obtain ⟨xw0, xh⟩ := xq; change xw = xw0 at hw''; subst hw''
    have HB3 := Lib.hid (HB2.out.trans (xh.mono HB2.out.size))
    have HR3 := Lib.hid (HR2.out.later xh)
    clear c0 l2 dW hsl xh HB2 HR2 CV
    generalize xw = w3 at HB3 HR3 ⊢
    have hmN : m < N := by have := HM.out; omega
    obtain ⟨b, off, hA, hb, hc⟩ := HR3.out.at_ sc_len (by omega)
    obtain ⟨u, hu⟩ : ∃ u, l[m]? = some u := ⟨_, List.getElem?_eq_getElem (by rw [HN.out]; exact hmN)⟩
    have hnm : nam l = u := by unfold nam; rw [HN.out, show N - 1 = m by have := HM.out; omega, hu]; rfl
    subst hA
    have e0' : w3.cell? ⟨b, off + m, none⟩ = some (.string (bs u)) := by simpa using hc m 0 u _ hu rfl
    have e0 : w3.cell? ⟨b, off + m, none⟩ = some (.string (kb (nam l))) := by rw [hnm]; exact e0'
    have i0 : (0 : Int) ≤ (m : Int) := by omega
    have i1 : (m : Int) < (N : Int) := by omega
    have cG1 := Lib.hid (cG.out w3 (by
      have h := HR3.out
      have hlen : u.length ≤ sumL l := sumL_mem (List.mem_of_getElem? hu)
      have := HSUM.out
      rw [hnm]
      show u.length ≤ _
      omega) (by constructor <;> intro _ <;> first | exact HG4.out | trivial))
    clear hc hb hu hnm cG e0'
    go_wp2_with fail
    refine cG1.out.mono ?_; rintro en w4 ⟨rfl, hb4⟩
    have HB4 := Lib.hid (HB3.out.trans (hb4.mono HB3.out.size))
    clear hb4 cG1
    go_wp2
    go_ret
    exact Ret.mk rfl HB4.out
end Tr
end Go.Proofs.YtgidkaidljiddaaDoor
