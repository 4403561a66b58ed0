/-
  Walk of bench.parse. Conditions: none beyond the theorem's own premises.
-/
import Derived.Test.YtgfldhdmdeeknaaGreatDoorBnPo
import Derived.Test.YtgfldhdmdeeknaaGreatDoorBnC
import Derived.Test.YtgfldhdmdeeknaaGreatDoorBnR
namespace Go.Proofs.YtgfldhdmdeeknaaGreatDoor
open Go.RowKit Go.Shelf Go.Sort
set_option linter.unusedVariables false
namespace Bn

theorem setFour {w0 w : World} {L : List It} (H : Sep w0 w L) (i : Nat) {g t : Nat} {a b c d : Value} (hi : L[i]? = some (.cells g t [a, b, c, d])) (p q r s : Value) :
    Sep w0 ((((w.setCell ⟨g, 0, none⟩ p).setCell ⟨g, 1, none⟩ q).setCell ⟨g, 2, none⟩ r).setCell ⟨g, 3, none⟩ s) (L.set i (.cells g t [p, q, r, s])) := by
  have hl := (List.getElem?_eq_some_iff.1 hi).1
  have e : ∀ x : It, (L.set i x)[i]? = some x := fun x => by rw [List.getElem?_set, if_pos rfl, if_pos hl]
  have h1 := H.set i hi (k := 0) p
  have h2 := h1.set i (g := g) (t := t) (l := [p, b, c, d]) (e _) (k := 1) q
  rw [List.set_set] at h2
  have h3 := h2.set i (g := g) (t := t) (l := [p, q, c, d]) (e _) (k := 2) r
  rw [List.set_set] at h3
  have h4 := h3.set i (g := g) (t := t) (l := [p, q, r, d]) (e _) (k := 3) s
  rw [List.set_set] at h4
  exact h4
theorem ok_small {nm dt : By} {k kind : Int} (h1 : nm.length ≤ 67108865) (h2 : dt.length ≤ 67108865) (h3 : -9223372036854775808 ≤ k) (h4 : k ≤ 9223372036854775807) : OkO ⟨kind, bs nm, bs dt, k⟩ :=
  ⟨by show (bs nm).size ≤ _; rw [bs_size]; exact h1, by show (bs dt).size ≤ _; rw [bs_size]; exact h2, h3, h4⟩
theorem ne_lit {a l : By} (h : a ≠ l) : ((bs a).toList == l) = false := by
  rw [bs_toList]
  simpa using h
theorem eq_lit (a : By) : ((bs a).toList == a) = true := by
  rw [bs_toList]
  simp
theorem nlen {n k : Nat} (h : n ≠ k) : ((n : Int) == (k : Int)) = false := by
  simp
  omega
theorem bytes_flat : ∀ d : By, (d.map fun b => b.toNat).flatMap bcell = d.map fun b => Value.int .u8 (b.toNat : Int)
  | [] => rfl
  | a :: d => by
    simp only [List.map_cons, List.flatMap_cons, bytes_flat d]
    rfl
theorem strOf_bytes (d : By) : strOf (d.map fun b => b.toNat) = bs d := by
  have e : d.map (UInt8.ofNat ∘ fun b => b.toNat) = d := by
    conv => rhs; rw [← List.map_id d]
    exact List.map_congr_left fun b _ => by simp
  simp only [strOf, bs, List.map_map, e]
def wcell (y : By) : Value := .string (bs y)

set_option maxRecDepth 100000 in
set_option maxHeartbeats 6400000 in
theorem parse_any (x : By) (S : ByteArray) (hS : bs x = S) (hl : x.length ≤ 67108865) (w : World) (hg : Gl w) :
    Calls Tryz.prog 21 #[.string S] w (fun e w' => ∃ o : So.Op, e = .returned (.agg #[.int .i64 o.kind, .string o.nm, .string o.dt, .int .i64 o.keep]) ∧ Rdl x o ∧ OkO o ∧ Below w.heap.size w w') := by
  subst hS
  have HG := Lib.hid hg
  have HA := Lib.hid ((Below.refl w.heap.size w).alloc (Nat.le_refl _) (.cells #[.int .i64 0, .string ⟨#[]⟩, .string ⟨#[]⟩, .int .i64 0] 56))
  have cS := Lib.hid (split_any x hl _ (hg.later HA.out))
  obtain ⟨a, r, hws⟩ := spl_ne 32 x
  obtain ⟨ws, hw0⟩ : ∃ ws, spl 32 x = ws := ⟨_, rfl⟩
  have H0 : Hid (Sep w (((w.alloc (.cells #[.int .i64 0, .string ⟨#[]⟩, .string ⟨#[]⟩, .int .i64 0] 56)).alloc (.cells (ws.map fun y => Value.string (bs y)).toArray 9)).alloc (.cells #[.int .i64 0, .string ⟨#[]⟩, .string ⟨#[]⟩, .int .i64 0] 56))
      [.cells w.heap.size 56 [.int .i64 0, .string ⟨#[]⟩, .string ⟨#[]⟩, .int .i64 0], .cells (w.heap.size + 1) 9 (ws.map wcell), .cells (w.heap.size + 2) 56 [.int .i64 0, .string ⟨#[]⟩, .string ⟨#[]⟩, .int .i64 0]]) := Lib.hid (by
    have h1 := (((Sep.nil_ w).new 56 [.int .i64 0, .string ⟨#[]⟩, .string ⟨#[]⟩, .int .i64 0]).new 9 (ws.map fun y => Value.string (bs y))).new 56 [.int .i64 0, .string ⟨#[]⟩, .string ⟨#[]⟩, .int .i64 0]
    have e1 : (w.alloc (.cells [Value.int .i64 0, .string ⟨#[]⟩, .string ⟨#[]⟩, .int .i64 0].toArray 56)).heap.size = w.heap.size + 1 := by simp
    have e2 : ((w.alloc (.cells [Value.int .i64 0, .string ⟨#[]⟩, .string ⟨#[]⟩, .int .i64 0].toArray 56)).alloc (.cells (ws.map fun y => Value.string (bs y)).toArray 9)).heap.size = w.heap.size + 2 := by simp
    rw [e2, e1] at h1
    exact h1)
  have HLEN : Hid (∀ y ∈ ws, y.length ≤ 67108865) := Lib.hid (fun y hy => Nat.le_trans (word_len 32 x y (by rw [hw0]; exact hy)) hl)
  have hcnt : ws.length ≤ 67108866 := by
    have := spl_count 32 x
    rw [hw0] at this
    omega
  have HW0 := Lib.hid hw0
  rw [hw0] at cS hws
  have e32 : (⟨#[32]⟩ : ByteArray) = bs [32] := rfl
  obtain ⟨n, hn0⟩ : ∃ n, ws.length = n := ⟨_, rfl⟩
  rw [← e32, hn0] at cS
  rw [hn0] at hcnt
  have HWS := Lib.hid hws
  have HN0 := Lib.hid hn0
  have hpos : 0 < n := by rw [← hn0, hws]; simp
  have i0 : (0 : Int) < (n : Int) := by omega
  clear hg hw0 e32 hws hn0
  go_enter Tryz.func21, Tryz.ntmps21
  go_wp2_with fail
  refine cS.out.mono ?_; rintro en wb ⟨rfl, rfl⟩
  go_upto_region 3 with (fail)
  clear cS
  have HG8 := Lib.hid (HG.out.later H0.out.below)
  clear HG HA
  generalize ((w.alloc (.cells #[.int .i64 0, .string ⟨#[]⟩, .string ⟨#[]⟩, .int .i64 0] 56)).alloc (.cells (ws.map fun y => Value.string (bs y)).toArray 9)).alloc (.cells #[.int .i64 0, .string ⟨#[]⟩, .string ⟨#[]⟩, .int .i64 0] 56) = w8 at H0 HG8 ⊢
  generalize w.heap.size + 2 = gp at H0 ⊢
  generalize w.heap.size + 1 = gw at H0 ⊢
  generalize w.heap.size = gr at H0 ⊢
  have HS := H0
  clear H0
  by_cases a1 : a = pW
  · subst a1
    have E1 : ((bs pW).toList == [119, 114, 105, 116, 101]) = true := by rw [bs_toList]; rfl
    have E2 : ((bs pW).toList == [114, 101, 109, 111, 118, 101]) = false := by rw [bs_toList]; rfl
    have E3 : ((bs pW).toList == [114, 101, 97, 100]) = false := by rw [bs_toList]; rfl
    have E4 : ((bs pW).toList == [115, 121, 110, 99]) = false := by rw [bs_toList]; rfl
    have E5 : ((bs pW).toList == [99, 114, 97, 115, 104]) = false := by rw [bs_toList]; rfl
    by_cases hn : ∃ b c, r = [b, c]
    · obtain ⟨b, c, rfl⟩ := hn
      have h3 : ((n : Int) == 3) = true := by rw [← HN0.out, HWS.out]; rfl
      have i1 : (1 : Int) < (n : Int) := by rw [← HN0.out, HWS.out]; simp
      have i2 : (2 : Int) < (n : Int) := by rw [← HN0.out, HWS.out]; simp
      have hcl := HLEN.out c (by rw [HWS.out]; simp)
      have hbl := Lib.hid (HLEN.out b (by rw [HWS.out]; simp))
      have cD := Lib.hid (decode_any c hcl _ HG8.out)
      have HQ := Lib.hid (show spl 32 x = [pW, b, c] by rw [HW0.out, HWS.out])
      have HCL := Lib.hid hcl
      clear hcl
      rw [HWS.out] at HS
      have c0 := HS.out.cell 1 rfl (k := 0) rfl
      have c2 := HS.out.cell 1 rfl (k := 2) rfl
      unfold wcell at c0 c2
      go_upto_region 4 with (fail)
      go_wp2_with fail
      refine cD.out.mono ?_; rintro en wb ⟨v, ev, rfl, hrow, hb⟩
      obtain ⟨A, cv, rfl⟩ := own_slice hrow
      have HS1 := Lib.hid (HS.out.later hb)
      clear c0 c2 cD
      have HROW := Lib.hid hrow
      clear hrow hb HS
      have HS := HS1
      clear HS1
      generalize w8.heap.size = gd at HROW
      obtain ⟨N, hN⟩ : ∃ N, (Lib.Hx.decode c).1.length = N := ⟨_, rfl⟩
      obtain ⟨d, hd⟩ : ∃ d, (Lib.Hx.decode c).1 = d := ⟨_, rfl⟩
      have hdl : d.length ≤ 67108865 := by
        have := Lib.Hx.decode_len c
        rw [hd] at this
        have := HCL.out
        omega
      rw [hN] at HROW ⊢
      rw [hd] at HROW hN
      have HDL := Lib.hid hdl
      have HD := Lib.hid hd
      have HN := Lib.hid hN
      clear hd hN hdl
      have k1 : ∀ y : LaterOf wb, (convert 22 9 (.slice A N cv)).run Tryz.prog y.w = .ok (.string (bs d)) y.w := fun y => by
        have hr := Rd.of_own (own_below HROW.out y.h)
        rw [← bytes_flat d] at hr
        have h := run_str_rd (P := Tryz.prog) 22 9 5 Tryz.underlying22 Tryz.underlying5 Tryz.underlying9 (c := cv) hr (by
          intro z hz
          obtain ⟨q, _, rfl⟩ := List.mem_map.1 hz
          exact q.toNat_lt)
        rw [h, strOf_bytes]
      have c1 := fun y : LaterOf wb => (HS.out.later y.h).cell 1 rfl (k := 1) rfl
      unfold wcell at c1
      have HSW := HS
      clear HS
      go_upto_region 5 with (fail)
      (refine wp_region_tail 6 (by kernel_rfl) (by kernel_rfl) ?_; simp only [List.take_succ_cons, List.take_zero, List.drop_succ_cons, List.drop_zero]; repeat (go_big_quiet_step (fail)))
      clear c1 k1
      refine wpQuiet_nil ?_; intro xw hw'; obtain ⟨xq, hw''⟩ := hw'; obtain ⟨xw0, xh⟩ := xq; change xw = xw0 at hw''; subst hw''
      have HS2 := HSW.out.later xh
      have p0 := HS2.cell 2 rfl (k := 0) rfl
      have p1 := HS2.cell 2 rfl (k := 1) rfl
      have p2 := HS2.cell 2 rfl (k := 2) rfl
      have p3 := HS2.cell 2 rfl (k := 3) rfl
      have u0 := HS2.froz 2 rfl (k := 0)
      have u1 := HS2.froz 2 rfl (k := 1)
      have u2 := HS2.froz 2 rfl (k := 2)
      have u3 := HS2.froz 2 rfl (k := 3)
      have HS3 := Lib.hid (setFour HS2 2 rfl (.int .i64 1) (.string (bs b)) (.string (bs d)) (.int .i64 0))
      have c2 := HS3.out.cell 1 rfl (k := 2) rfl
      unfold wcell at c2
      clear HS2 xh HSW HROW
      go_upto_region 6 with (fail)
      clear p0 p1 p2 p3 u0 u1 u2 u3
      generalize World.setCell _ ⟨gp, 3, none⟩ (.int .i64 0) = w9 at HS3 c2 ⊢
      by_cases hc : c = [45]
      · have E6 : ((bs c).toList == [45]) = true := by rw [hc]; exact eq_lit [45]
        have HRD : Hid (Rdl x ⟨1, bs b, bs [], 0⟩) := Lib.hid (rdl_write HQ.out [] (hx_dec2 c [] (by rw [if_pos hc])))
        have HOK : Hid (OkO ⟨1, bs b, bs [], 0⟩) := Lib.hid (ok_small hbl.out (by simp) (by omega) (by omega))
        have p2 := HS3.out.cell 2 rfl (k := 2) rfl
        have u2 := HS3.out.froz 2 rfl (k := 2)
        have HS9 := Lib.hid (HS3.out.set 2 rfl (k := 2) (.string ⟨#[]⟩))
        clear hc HS3
        go_upto_region 17 with (fail)
        clear c2 p2 u2
        generalize World.setCell w9 ⟨gp, 2, none⟩ (.string ⟨#[]⟩) = wx at HS9 ⊢
        have p0 := HS9.out.cell 2 rfl (k := 0) rfl
        have p1 := HS9.out.cell 2 rfl (k := 1) rfl
        have p2 := HS9.out.cell 2 rfl (k := 2) rfl
        have p3 := HS9.out.cell 2 rfl (k := 3) rfl
        have r0 := HS9.out.cell 0 rfl (k := 0) rfl
        have r1 := HS9.out.cell 0 rfl (k := 1) rfl
        have r2 := HS9.out.cell 0 rfl (k := 2) rfl
        have r3 := HS9.out.cell 0 rfl (k := 3) rfl
        have u0 := HS9.out.froz 0 rfl (k := 0)
        have u1 := HS9.out.froz 0 rfl (k := 1)
        have u2 := HS9.out.froz 0 rfl (k := 2)
        have u3 := HS9.out.froz 0 rfl (k := 3)
        have HF := Lib.hid (setFour HS9.out 0 rfl (.int .i64 1) (.string (bs b)) (.string ⟨#[]⟩) (.int .i64 0))
        have f0 := HF.out.cell 0 rfl (k := 0) rfl
        have f1 := HF.out.cell 0 rfl (k := 1) rfl
        have f2 := HF.out.cell 0 rfl (k := 2) rfl
        have f3 := HF.out.cell 0 rfl (k := 3) rfl
        clear HS9
        go_wp2
        refine bodyPost_ret (v := .agg #[.int .i64 1, .string (bs b), .string ⟨#[]⟩, .int .i64 0]) (by simp [results, Tryz.results21, asAddr, Result.andThen, go_sem, f0, f1, f2, f3]) rfl ?_
        exact ⟨⟨1, (bs b), ⟨#[]⟩, 0⟩, rfl, HRD.out, HOK.out, HF.out.below⟩
      · have E6 : ((bs c).toList == [45]) = false := ne_lit hc
        have HRD : Hid (Rdl x ⟨1, bs b, bs d, 0⟩) := Lib.hid (rdl_write HQ.out d (hx_dec2 c d (by rw [if_neg hc, HD.out])))
        have HOK : Hid (OkO ⟨1, bs b, bs d, 0⟩) := Lib.hid (ok_small hbl.out HDL.out (by omega) (by omega))
        clear hc
        go_upto_region 17 with (fail)
        clear c2
        have HS9 := HS3
        clear HS3
        have p0 := HS9.out.cell 2 rfl (k := 0) rfl
        have p1 := HS9.out.cell 2 rfl (k := 1) rfl
        have p2 := HS9.out.cell 2 rfl (k := 2) rfl
        have p3 := HS9.out.cell 2 rfl (k := 3) rfl
        have r0 := HS9.out.cell 0 rfl (k := 0) rfl
        have r1 := HS9.out.cell 0 rfl (k := 1) rfl
        have r2 := HS9.out.cell 0 rfl (k := 2) rfl
        have r3 := HS9.out.cell 0 rfl (k := 3) rfl
        have u0 := HS9.out.froz 0 rfl (k := 0)
        have u1 := HS9.out.froz 0 rfl (k := 1)
        have u2 := HS9.out.froz 0 rfl (k := 2)
        have u3 := HS9.out.froz 0 rfl (k := 3)
        have HF := Lib.hid (setFour HS9.out 0 rfl (.int .i64 1) (.string (bs b)) (.string (bs d)) (.int .i64 0))
        have f0 := HF.out.cell 0 rfl (k := 0) rfl
        have f1 := HF.out.cell 0 rfl (k := 1) rfl
        have f2 := HF.out.cell 0 rfl (k := 2) rfl
        have f3 := HF.out.cell 0 rfl (k := 3) rfl
        clear HS9
        go_wp2
        refine bodyPost_ret (v := .agg #[.int .i64 1, .string (bs b), .string (bs d), .int .i64 0]) (by simp [results, Tryz.results21, asAddr, Result.andThen, go_sem, f0, f1, f2, f3]) rfl ?_
        exact ⟨⟨1, (bs b), (bs d), 0⟩, rfl, HRD.out, HOK.out, HF.out.below⟩
    · have HRD : Hid (Rdl x ⟨0, e0, e0, 0⟩) := Lib.hid (rdl_zero (fun b c h => hn ⟨b, c, by rw [HW0.out, HWS.out] at h; simpa using h⟩) (fun b h => by rw [HW0.out, HWS.out] at h; simp only [List.cons.injEq] at h; exact absurd h.1 (by decide)) (fun b h => by rw [HW0.out, HWS.out] at h; simp only [List.cons.injEq] at h; exact absurd h.1 (by decide)) (fun b h => by rw [HW0.out, HWS.out] at h; simp only [List.cons.injEq] at h; exact absurd h.1 (by decide)) (fun b h => by rw [HW0.out, HWS.out] at h; simp only [List.cons.injEq] at h; exact absurd h.1 (by decide)))
      have HOK : Hid (OkO ⟨0, e0, e0, 0⟩) := Lib.hid (ok_small (nm := []) (dt := []) (by simp) (by simp) (by omega) (by omega))
      have h3 : ((n : Int) == 3) = false := by
        have hn2 := HN0.out
        have : n ≠ 3 := fun e => by
          rw [HWS.out, e] at hn2
          match r, hn2 with
          | [b, c], _ => exact hn ⟨b, c, rfl⟩
        simp
        omega
      rw [HWS.out] at HS
      clear hn
      have c0 := HS.out.cell 1 rfl (k := 0) rfl
      unfold wcell at c0
      go_upto_region 17 with (fail)
      have HS9 := HS
      clear c0 HS
      have p0 := HS9.out.cell 2 rfl (k := 0) rfl
      have p1 := HS9.out.cell 2 rfl (k := 1) rfl
      have p2 := HS9.out.cell 2 rfl (k := 2) rfl
      have p3 := HS9.out.cell 2 rfl (k := 3) rfl
      have r0 := HS9.out.cell 0 rfl (k := 0) rfl
      have r1 := HS9.out.cell 0 rfl (k := 1) rfl
      have r2 := HS9.out.cell 0 rfl (k := 2) rfl
      have r3 := HS9.out.cell 0 rfl (k := 3) rfl
      have u0 := HS9.out.froz 0 rfl (k := 0)
      have u1 := HS9.out.froz 0 rfl (k := 1)
      have u2 := HS9.out.froz 0 rfl (k := 2)
      have u3 := HS9.out.froz 0 rfl (k := 3)
      have HF := Lib.hid (setFour HS9.out 0 rfl (.int .i64 0) (.string ⟨#[]⟩) (.string ⟨#[]⟩) (.int .i64 0))
      have f0 := HF.out.cell 0 rfl (k := 0) rfl
      have f1 := HF.out.cell 0 rfl (k := 1) rfl
      have f2 := HF.out.cell 0 rfl (k := 2) rfl
      have f3 := HF.out.cell 0 rfl (k := 3) rfl
      clear HS9
      go_wp2
      refine bodyPost_ret (v := .agg #[.int .i64 0, .string ⟨#[]⟩, .string ⟨#[]⟩, .int .i64 0]) (by simp [results, Tryz.results21, asAddr, Result.andThen, go_sem, f0, f1, f2, f3]) rfl ?_
      exact ⟨⟨0, ⟨#[]⟩, ⟨#[]⟩, 0⟩, rfl, HRD.out, HOK.out, HF.out.below⟩
  · have E1 : ((bs a).toList == [119, 114, 105, 116, 101]) = false := ne_lit a1
    by_cases a2 : a = pM
    · subst a2
      have E2 : ((bs pM).toList == [114, 101, 109, 111, 118, 101]) = true := eq_lit pM
      have E3 : ((bs pM).toList == [114, 101, 97, 100]) = false := ne_lit (by decide)
      have E4 : ((bs pM).toList == [115, 121, 110, 99]) = false := ne_lit (by decide)
      have E5 : ((bs pM).toList == [99, 114, 97, 115, 104]) = false := ne_lit (by decide)
      clear a1
      by_cases hn : ∃ b, r = [b]
      · obtain ⟨b, rfl⟩ := hn
        have h2 : ((n : Int) == 2) = true := by rw [← HN0.out, HWS.out]; rfl
        have i1 : (1 : Int) < (n : Int) := by rw [← HN0.out, HWS.out]; simp
        have HRD : Hid (Rdl x ⟨2, bs b, e0, 0⟩) := Lib.hid (rdl_remove (by rw [HW0.out, HWS.out]))
        have HOK : Hid (OkO ⟨2, bs b, e0, 0⟩) := Lib.hid (ok_small (nm := b) (dt := []) (HLEN.out b (by rw [HWS.out]; simp)) (by simp) (by omega) (by omega))
        rw [HWS.out] at HS
        have c1 := HS.out.cell 1 rfl (k := 1) rfl
        unfold wcell at c1
        have HS9 := Lib.hid (setFour HS.out 2 rfl (.int .i64 2) (.string (bs b)) (.string ⟨#[]⟩) (.int .i64 0))
        have c0 := HS.out.cell 1 rfl (k := 0) rfl
        unfold wcell at c0
        have p0 := HS.out.cell 2 rfl (k := 0) rfl
        have p1 := HS.out.cell 2 rfl (k := 1) rfl
        have p2 := HS.out.cell 2 rfl (k := 2) rfl
        have p3 := HS.out.cell 2 rfl (k := 3) rfl
        have u0 := HS.out.froz 2 rfl (k := 0)
        have u1 := HS.out.froz 2 rfl (k := 1)
        have u2 := HS.out.froz 2 rfl (k := 2)
        have u3 := HS.out.froz 2 rfl (k := 3)
        go_upto_region 17 with (fail)
        clear p0 p1 p2 p3 u0 u1 u2 u3 c0 HS
        generalize World.setCell _ ⟨gp, 3, none⟩ (.int .i64 0) = w9 at HS9 ⊢
        have p0 := HS9.out.cell 2 rfl (k := 0) rfl
        have p1 := HS9.out.cell 2 rfl (k := 1) rfl
        have p2 := HS9.out.cell 2 rfl (k := 2) rfl
        have p3 := HS9.out.cell 2 rfl (k := 3) rfl
        have r0 := HS9.out.cell 0 rfl (k := 0) rfl
        have r1 := HS9.out.cell 0 rfl (k := 1) rfl
        have r2 := HS9.out.cell 0 rfl (k := 2) rfl
        have r3 := HS9.out.cell 0 rfl (k := 3) rfl
        have u0 := HS9.out.froz 0 rfl (k := 0)
        have u1 := HS9.out.froz 0 rfl (k := 1)
        have u2 := HS9.out.froz 0 rfl (k := 2)
        have u3 := HS9.out.froz 0 rfl (k := 3)
        have HF := Lib.hid (setFour HS9.out 0 rfl (.int .i64 2) (.string (bs b)) (.string ⟨#[]⟩) (.int .i64 0))
        have f0 := HF.out.cell 0 rfl (k := 0) rfl
        have f1 := HF.out.cell 0 rfl (k := 1) rfl
        have f2 := HF.out.cell 0 rfl (k := 2) rfl
        have f3 := HF.out.cell 0 rfl (k := 3) rfl
        clear HS9
        go_wp2
        refine bodyPost_ret (v := .agg #[.int .i64 2, .string (bs b), .string ⟨#[]⟩, .int .i64 0]) (by simp [results, Tryz.results21, asAddr, Result.andThen, go_sem, f0, f1, f2, f3]) rfl ?_
        exact ⟨⟨2, (bs b), ⟨#[]⟩, 0⟩, rfl, HRD.out, HOK.out, HF.out.below⟩
      · have HRD : Hid (Rdl x ⟨0, e0, e0, 0⟩) := Lib.hid (rdl_zero (fun b c h => by rw [HW0.out, HWS.out] at h; simp only [List.cons.injEq] at h; exact absurd h.1 (by decide)) (fun b h => hn ⟨b, by rw [HW0.out, HWS.out] at h; simpa using h⟩) (fun b h => by rw [HW0.out, HWS.out] at h; simp only [List.cons.injEq] at h; exact absurd h.1 (by decide)) (fun b h => by rw [HW0.out, HWS.out] at h; simp only [List.cons.injEq] at h; exact absurd h.1 (by decide)) (fun b h => by rw [HW0.out, HWS.out] at h; simp only [List.cons.injEq] at h; exact absurd h.1 (by decide)))
        have HOK : Hid (OkO ⟨0, e0, e0, 0⟩) := Lib.hid (ok_small (nm := []) (dt := []) (by simp) (by simp) (by omega) (by omega))
        have h2 : ((n : Int) == 2) = false := nlen (fun e => by
          have hn2 := HN0.out
          rw [HWS.out, e] at hn2
          match r, hn2 with
          | [b], _ => exact hn ⟨b, rfl⟩)
        rw [HWS.out] at HS
        clear hn
        have c0 := HS.out.cell 1 rfl (k := 0) rfl
        unfold wcell at c0
        go_upto_region 17 with (fail)
        have HS9 := HS
        clear c0 HS
        have p0 := HS9.out.cell 2 rfl (k := 0) rfl
        have p1 := HS9.out.cell 2 rfl (k := 1) rfl
        have p2 := HS9.out.cell 2 rfl (k := 2) rfl
        have p3 := HS9.out.cell 2 rfl (k := 3) rfl
        have r0 := HS9.out.cell 0 rfl (k := 0) rfl
        have r1 := HS9.out.cell 0 rfl (k := 1) rfl
        have r2 := HS9.out.cell 0 rfl (k := 2) rfl
        have r3 := HS9.out.cell 0 rfl (k := 3) rfl
        have u0 := HS9.out.froz 0 rfl (k := 0)
        have u1 := HS9.out.froz 0 rfl (k := 1)
        have u2 := HS9.out.froz 0 rfl (k := 2)
        have u3 := HS9.out.froz 0 rfl (k := 3)
        have HF := Lib.hid (setFour HS9.out 0 rfl (.int .i64 0) (.string ⟨#[]⟩) (.string ⟨#[]⟩) (.int .i64 0))
        have f0 := HF.out.cell 0 rfl (k := 0) rfl
        have f1 := HF.out.cell 0 rfl (k := 1) rfl
        have f2 := HF.out.cell 0 rfl (k := 2) rfl
        have f3 := HF.out.cell 0 rfl (k := 3) rfl
        clear HS9
        go_wp2
        refine bodyPost_ret (v := .agg #[.int .i64 0, .string ⟨#[]⟩, .string ⟨#[]⟩, .int .i64 0]) (by simp [results, Tryz.results21, asAddr, Result.andThen, go_sem, f0, f1, f2, f3]) rfl ?_
        exact ⟨⟨0, ⟨#[]⟩, ⟨#[]⟩, 0⟩, rfl, HRD.out, HOK.out, HF.out.below⟩
    · have E2 : ((bs a).toList == [114, 101, 109, 111, 118, 101]) = false := ne_lit a2
      by_cases a3 : a = pR
      · subst a3
        have E3 : ((bs pR).toList == [114, 101, 97, 100]) = true := eq_lit pR
        have E4 : ((bs pR).toList == [115, 121, 110, 99]) = false := ne_lit (by decide)
        have E5 : ((bs pR).toList == [99, 114, 97, 115, 104]) = false := ne_lit (by decide)
        clear a1 a2
        by_cases hn : ∃ b, r = [b]
        · obtain ⟨b, rfl⟩ := hn
          have h2 : ((n : Int) == 2) = true := by rw [← HN0.out, HWS.out]; rfl
          have i1 : (1 : Int) < (n : Int) := by rw [← HN0.out, HWS.out]; simp
          have HRD : Hid (Rdl x ⟨3, bs b, e0, 0⟩) := Lib.hid (rdl_read (by rw [HW0.out, HWS.out]))
          have HOK : Hid (OkO ⟨3, bs b, e0, 0⟩) := Lib.hid (ok_small (nm := b) (dt := []) (HLEN.out b (by rw [HWS.out]; simp)) (by simp) (by omega) (by omega))
          rw [HWS.out] at HS
          have c1 := HS.out.cell 1 rfl (k := 1) rfl
          unfold wcell at c1
          have HS9 := Lib.hid (setFour HS.out 2 rfl (.int .i64 3) (.string (bs b)) (.string ⟨#[]⟩) (.int .i64 0))
          have c0 := HS.out.cell 1 rfl (k := 0) rfl
          unfold wcell at c0
          have p0 := HS.out.cell 2 rfl (k := 0) rfl
          have p1 := HS.out.cell 2 rfl (k := 1) rfl
          have p2 := HS.out.cell 2 rfl (k := 2) rfl
          have p3 := HS.out.cell 2 rfl (k := 3) rfl
          have u0 := HS.out.froz 2 rfl (k := 0)
          have u1 := HS.out.froz 2 rfl (k := 1)
          have u2 := HS.out.froz 2 rfl (k := 2)
          have u3 := HS.out.froz 2 rfl (k := 3)
          go_upto_region 17 with (fail)
          clear p0 p1 p2 p3 u0 u1 u2 u3 c0 HS
          generalize World.setCell _ ⟨gp, 3, none⟩ (.int .i64 0) = w9 at HS9 ⊢
          have p0 := HS9.out.cell 2 rfl (k := 0) rfl
          have p1 := HS9.out.cell 2 rfl (k := 1) rfl
          have p2 := HS9.out.cell 2 rfl (k := 2) rfl
          have p3 := HS9.out.cell 2 rfl (k := 3) rfl
          have r0 := HS9.out.cell 0 rfl (k := 0) rfl
          have r1 := HS9.out.cell 0 rfl (k := 1) rfl
          have r2 := HS9.out.cell 0 rfl (k := 2) rfl
          have r3 := HS9.out.cell 0 rfl (k := 3) rfl
          have u0 := HS9.out.froz 0 rfl (k := 0)
          have u1 := HS9.out.froz 0 rfl (k := 1)
          have u2 := HS9.out.froz 0 rfl (k := 2)
          have u3 := HS9.out.froz 0 rfl (k := 3)
          have HF := Lib.hid (setFour HS9.out 0 rfl (.int .i64 3) (.string (bs b)) (.string ⟨#[]⟩) (.int .i64 0))
          have f0 := HF.out.cell 0 rfl (k := 0) rfl
          have f1 := HF.out.cell 0 rfl (k := 1) rfl
          have f2 := HF.out.cell 0 rfl (k := 2) rfl
          have f3 := HF.out.cell 0 rfl (k := 3) rfl
          clear HS9
          go_wp2
          refine bodyPost_ret (v := .agg #[.int .i64 3, .string (bs b), .string ⟨#[]⟩, .int .i64 0]) (by simp [results, Tryz.results21, asAddr, Result.andThen, go_sem, f0, f1, f2, f3]) rfl ?_
          exact ⟨⟨3, (bs b), ⟨#[]⟩, 0⟩, rfl, HRD.out, HOK.out, HF.out.below⟩
        · have HRD : Hid (Rdl x ⟨0, e0, e0, 0⟩) := Lib.hid (rdl_zero (fun b c h => by rw [HW0.out, HWS.out] at h; simp only [List.cons.injEq] at h; exact absurd h.1 (by decide)) (fun b h => by rw [HW0.out, HWS.out] at h; simp only [List.cons.injEq] at h; exact absurd h.1 (by decide)) (fun b h => hn ⟨b, by rw [HW0.out, HWS.out] at h; simpa using h⟩) (fun b h => by rw [HW0.out, HWS.out] at h; simp only [List.cons.injEq] at h; exact absurd h.1 (by decide)) (fun b h => by rw [HW0.out, HWS.out] at h; simp only [List.cons.injEq] at h; exact absurd h.1 (by decide)))
          have HOK : Hid (OkO ⟨0, e0, e0, 0⟩) := Lib.hid (ok_small (nm := []) (dt := []) (by simp) (by simp) (by omega) (by omega))
          have h2 : ((n : Int) == 2) = false := nlen (fun e => by
            have hn2 := HN0.out
            rw [HWS.out, e] at hn2
            match r, hn2 with
            | [b], _ => exact hn ⟨b, rfl⟩)
          rw [HWS.out] at HS
          clear hn
          have c0 := HS.out.cell 1 rfl (k := 0) rfl
          unfold wcell at c0
          go_upto_region 17 with (fail)
          have HS9 := HS
          clear c0 HS
          have p0 := HS9.out.cell 2 rfl (k := 0) rfl
          have p1 := HS9.out.cell 2 rfl (k := 1) rfl
          have p2 := HS9.out.cell 2 rfl (k := 2) rfl
          have p3 := HS9.out.cell 2 rfl (k := 3) rfl
          have r0 := HS9.out.cell 0 rfl (k := 0) rfl
          have r1 := HS9.out.cell 0 rfl (k := 1) rfl
          have r2 := HS9.out.cell 0 rfl (k := 2) rfl
          have r3 := HS9.out.cell 0 rfl (k := 3) rfl
          have u0 := HS9.out.froz 0 rfl (k := 0)
          have u1 := HS9.out.froz 0 rfl (k := 1)
          have u2 := HS9.out.froz 0 rfl (k := 2)
          have u3 := HS9.out.froz 0 rfl (k := 3)
          have HF := Lib.hid (setFour HS9.out 0 rfl (.int .i64 0) (.string ⟨#[]⟩) (.string ⟨#[]⟩) (.int .i64 0))
          have f0 := HF.out.cell 0 rfl (k := 0) rfl
          have f1 := HF.out.cell 0 rfl (k := 1) rfl
          have f2 := HF.out.cell 0 rfl (k := 2) rfl
          have f3 := HF.out.cell 0 rfl (k := 3) rfl
          clear HS9
          go_wp2
          refine bodyPost_ret (v := .agg #[.int .i64 0, .string ⟨#[]⟩, .string ⟨#[]⟩, .int .i64 0]) (by simp [results, Tryz.results21, asAddr, Result.andThen, go_sem, f0, f1, f2, f3]) rfl ?_
          exact ⟨⟨0, ⟨#[]⟩, ⟨#[]⟩, 0⟩, rfl, HRD.out, HOK.out, HF.out.below⟩
      · have E3 : ((bs a).toList == [114, 101, 97, 100]) = false := ne_lit a3
        by_cases a4 : a = pS
        · subst a4
          have E4 : ((bs pS).toList == [115, 121, 110, 99]) = true := eq_lit pS
          clear a1 a2 a3
          have HRD : Hid (Rdl x ⟨4, e0, e0, 0⟩) := Lib.hid (rdl_sync (by rw [HW0.out, HWS.out]))
          have HOK : Hid (OkO ⟨4, e0, e0, 0⟩) := Lib.hid (ok_small (nm := []) (dt := []) (by simp) (by simp) (by omega) (by omega))
          rw [HWS.out] at HS
          have HS9 := Lib.hid (setFour HS.out 2 rfl (.int .i64 4) (.string ⟨#[]⟩) (.string ⟨#[]⟩) (.int .i64 0))
          have c0 := HS.out.cell 1 rfl (k := 0) rfl
          unfold wcell at c0
          have p0 := HS.out.cell 2 rfl (k := 0) rfl
          have p1 := HS.out.cell 2 rfl (k := 1) rfl
          have p2 := HS.out.cell 2 rfl (k := 2) rfl
          have p3 := HS.out.cell 2 rfl (k := 3) rfl
          have u0 := HS.out.froz 2 rfl (k := 0)
          have u1 := HS.out.froz 2 rfl (k := 1)
          have u2 := HS.out.froz 2 rfl (k := 2)
          have u3 := HS.out.froz 2 rfl (k := 3)
          go_upto_region 17 with (fail)
          clear p0 p1 p2 p3 u0 u1 u2 u3 c0 HS
          generalize World.setCell _ ⟨gp, 3, none⟩ (.int .i64 0) = w9 at HS9 ⊢
          have p0 := HS9.out.cell 2 rfl (k := 0) rfl
          have p1 := HS9.out.cell 2 rfl (k := 1) rfl
          have p2 := HS9.out.cell 2 rfl (k := 2) rfl
          have p3 := HS9.out.cell 2 rfl (k := 3) rfl
          have r0 := HS9.out.cell 0 rfl (k := 0) rfl
          have r1 := HS9.out.cell 0 rfl (k := 1) rfl
          have r2 := HS9.out.cell 0 rfl (k := 2) rfl
          have r3 := HS9.out.cell 0 rfl (k := 3) rfl
          have u0 := HS9.out.froz 0 rfl (k := 0)
          have u1 := HS9.out.froz 0 rfl (k := 1)
          have u2 := HS9.out.froz 0 rfl (k := 2)
          have u3 := HS9.out.froz 0 rfl (k := 3)
          have HF := Lib.hid (setFour HS9.out 0 rfl (.int .i64 4) (.string ⟨#[]⟩) (.string ⟨#[]⟩) (.int .i64 0))
          have f0 := HF.out.cell 0 rfl (k := 0) rfl
          have f1 := HF.out.cell 0 rfl (k := 1) rfl
          have f2 := HF.out.cell 0 rfl (k := 2) rfl
          have f3 := HF.out.cell 0 rfl (k := 3) rfl
          clear HS9
          go_wp2
          refine bodyPost_ret (v := .agg #[.int .i64 4, .string ⟨#[]⟩, .string ⟨#[]⟩, .int .i64 0]) (by simp [results, Tryz.results21, asAddr, Result.andThen, go_sem, f0, f1, f2, f3]) rfl ?_
          exact ⟨⟨4, ⟨#[]⟩, ⟨#[]⟩, 0⟩, rfl, HRD.out, HOK.out, HF.out.below⟩
        · have E4 : ((bs a).toList == [115, 121, 110, 99]) = false := ne_lit a4
          by_cases a5 : a = pC
          · subst a5
            have E5 : ((bs pC).toList == [99, 114, 97, 115, 104]) = true := eq_lit pC
            clear a1 a2 a3 a4
            by_cases hn : ∃ b, r = [b]
            · obtain ⟨b, rfl⟩ := hn
              have h2 : ((n : Int) == 2) = true := by rw [← HN0.out, HWS.out]; rfl
              have i1 : (1 : Int) < (n : Int) := by rw [← HN0.out, HWS.out]; simp
              have cA := Lib.hid (atoi_any b (HLEN.out b (by rw [HWS.out]; simp)) _ HG8.out)
              have HQ := Lib.hid (show spl 32 x = [pC, b] by rw [HW0.out, HWS.out])
              rw [HWS.out] at HS
              have c0 := HS.out.cell 1 rfl (k := 0) rfl
              have c1 := HS.out.cell 1 rfl (k := 1) rfl
              unfold wcell at c0 c1
              go_upto_region 15 with (fail)
              go_wp2_with fail
              refine cA.out.mono ?_; rintro en wb ⟨k, ev, rfl, hb, hk1, hk2, hk⟩
              have HS1 := Lib.hid (HS.out.later hb)
              have HRD : Hid (Rdl x ⟨5, e0, e0, k⟩) := Lib.hid (rdl_crash HQ.out k (fun v h1 h2 e => hk v (by rw [e]; exact atoi_itoa v h1 h2)))
              have HOK : Hid (OkO ⟨5, e0, e0, k⟩) := Lib.hid (ok_small (nm := []) (dt := []) (by simp) (by simp) hk1 hk2)
              clear c0 c1 cA hb hk hk1 hk2 HS
              have HS := HS1
              clear HS1
              have HS9 := Lib.hid (setFour HS.out 2 rfl (.int .i64 5) (.string ⟨#[]⟩) (.string ⟨#[]⟩) (.int .i64 k))
              have c0 := HS.out.cell 1 rfl (k := 0) rfl
              unfold wcell at c0
              have p0 := HS.out.cell 2 rfl (k := 0) rfl
              have p1 := HS.out.cell 2 rfl (k := 1) rfl
              have p2 := HS.out.cell 2 rfl (k := 2) rfl
              have p3 := HS.out.cell 2 rfl (k := 3) rfl
              have u0 := HS.out.froz 2 rfl (k := 0)
              have u1 := HS.out.froz 2 rfl (k := 1)
              have u2 := HS.out.froz 2 rfl (k := 2)
              have u3 := HS.out.froz 2 rfl (k := 3)
              go_upto_region 17 with (fail)
              clear p0 p1 p2 p3 u0 u1 u2 u3 c0 HS
              generalize World.setCell _ ⟨gp, 3, none⟩ (.int .i64 k) = w9 at HS9 ⊢
              have p0 := HS9.out.cell 2 rfl (k := 0) rfl
              have p1 := HS9.out.cell 2 rfl (k := 1) rfl
              have p2 := HS9.out.cell 2 rfl (k := 2) rfl
              have p3 := HS9.out.cell 2 rfl (k := 3) rfl
              have r0 := HS9.out.cell 0 rfl (k := 0) rfl
              have r1 := HS9.out.cell 0 rfl (k := 1) rfl
              have r2 := HS9.out.cell 0 rfl (k := 2) rfl
              have r3 := HS9.out.cell 0 rfl (k := 3) rfl
              have u0 := HS9.out.froz 0 rfl (k := 0)
              have u1 := HS9.out.froz 0 rfl (k := 1)
              have u2 := HS9.out.froz 0 rfl (k := 2)
              have u3 := HS9.out.froz 0 rfl (k := 3)
              have HF := Lib.hid (setFour HS9.out 0 rfl (.int .i64 5) (.string ⟨#[]⟩) (.string ⟨#[]⟩) (.int .i64 k))
              have f0 := HF.out.cell 0 rfl (k := 0) rfl
              have f1 := HF.out.cell 0 rfl (k := 1) rfl
              have f2 := HF.out.cell 0 rfl (k := 2) rfl
              have f3 := HF.out.cell 0 rfl (k := 3) rfl
              clear HS9
              go_wp2
              refine bodyPost_ret (v := .agg #[.int .i64 5, .string ⟨#[]⟩, .string ⟨#[]⟩, .int .i64 k]) (by simp [results, Tryz.results21, asAddr, Result.andThen, go_sem, f0, f1, f2, f3]) rfl ?_
              exact ⟨⟨5, ⟨#[]⟩, ⟨#[]⟩, k⟩, rfl, HRD.out, HOK.out, HF.out.below⟩
            · have HRD : Hid (Rdl x ⟨0, e0, e0, 0⟩) := Lib.hid (rdl_zero (fun b c h => by rw [HW0.out, HWS.out] at h; simp only [List.cons.injEq] at h; exact absurd h.1 (by decide)) (fun b h => by rw [HW0.out, HWS.out] at h; simp only [List.cons.injEq] at h; exact absurd h.1 (by decide)) (fun b h => by rw [HW0.out, HWS.out] at h; simp only [List.cons.injEq] at h; exact absurd h.1 (by decide)) (fun b h => by rw [HW0.out, HWS.out] at h; simp only [List.cons.injEq] at h; exact absurd h.1 (by decide)) (fun b h => hn ⟨b, by rw [HW0.out, HWS.out] at h; simpa using h⟩))
              have HOK : Hid (OkO ⟨0, e0, e0, 0⟩) := Lib.hid (ok_small (nm := []) (dt := []) (by simp) (by simp) (by omega) (by omega))
              have h2 : ((n : Int) == 2) = false := nlen (fun e => by
                have hn2 := HN0.out
                rw [HWS.out, e] at hn2
                match r, hn2 with
                | [b], _ => exact hn ⟨b, rfl⟩)
              rw [HWS.out] at HS
              clear hn
              have c0 := HS.out.cell 1 rfl (k := 0) rfl
              unfold wcell at c0
              go_upto_region 17 with (fail)
              have HS9 := HS
              clear c0 HS
              have p0 := HS9.out.cell 2 rfl (k := 0) rfl
              have p1 := HS9.out.cell 2 rfl (k := 1) rfl
              have p2 := HS9.out.cell 2 rfl (k := 2) rfl
              have p3 := HS9.out.cell 2 rfl (k := 3) rfl
              have r0 := HS9.out.cell 0 rfl (k := 0) rfl
              have r1 := HS9.out.cell 0 rfl (k := 1) rfl
              have r2 := HS9.out.cell 0 rfl (k := 2) rfl
              have r3 := HS9.out.cell 0 rfl (k := 3) rfl
              have u0 := HS9.out.froz 0 rfl (k := 0)
              have u1 := HS9.out.froz 0 rfl (k := 1)
              have u2 := HS9.out.froz 0 rfl (k := 2)
              have u3 := HS9.out.froz 0 rfl (k := 3)
              have HF := Lib.hid (setFour HS9.out 0 rfl (.int .i64 0) (.string ⟨#[]⟩) (.string ⟨#[]⟩) (.int .i64 0))
              have f0 := HF.out.cell 0 rfl (k := 0) rfl
              have f1 := HF.out.cell 0 rfl (k := 1) rfl
              have f2 := HF.out.cell 0 rfl (k := 2) rfl
              have f3 := HF.out.cell 0 rfl (k := 3) rfl
              clear HS9
              go_wp2
              refine bodyPost_ret (v := .agg #[.int .i64 0, .string ⟨#[]⟩, .string ⟨#[]⟩, .int .i64 0]) (by simp [results, Tryz.results21, asAddr, Result.andThen, go_sem, f0, f1, f2, f3]) rfl ?_
              exact ⟨⟨0, ⟨#[]⟩, ⟨#[]⟩, 0⟩, rfl, HRD.out, HOK.out, HF.out.below⟩
          · have E5 : ((bs a).toList == [99, 114, 97, 115, 104]) = false := ne_lit a5
            have HRD : Hid (Rdl x ⟨0, e0, e0, 0⟩) := Lib.hid (rdl_zero (fun b c h => a1 (by rw [HW0.out, HWS.out] at h; simp only [List.cons.injEq] at h; exact h.1)) (fun b h => a2 (by rw [HW0.out, HWS.out] at h; simp only [List.cons.injEq] at h; exact h.1)) (fun b h => a3 (by rw [HW0.out, HWS.out] at h; simp only [List.cons.injEq] at h; exact h.1)) (fun b h => a4 (by rw [HW0.out, HWS.out] at h; simp only [List.cons.injEq] at h; exact h.1)) (fun b h => a5 (by rw [HW0.out, HWS.out] at h; simp only [List.cons.injEq] at h; exact h.1)))
            have HOK : Hid (OkO ⟨0, e0, e0, 0⟩) := Lib.hid (ok_small (nm := []) (dt := []) (by simp) (by simp) (by omega) (by omega))
            clear a1 a2 a3 a4 a5
            rw [HWS.out] at HS
            have c0 := HS.out.cell 1 rfl (k := 0) rfl
            unfold wcell at c0
            go_upto_region 17 with (fail)
            have HS9 := HS
            clear c0 HS
            have p0 := HS9.out.cell 2 rfl (k := 0) rfl
            have p1 := HS9.out.cell 2 rfl (k := 1) rfl
            have p2 := HS9.out.cell 2 rfl (k := 2) rfl
            have p3 := HS9.out.cell 2 rfl (k := 3) rfl
            have r0 := HS9.out.cell 0 rfl (k := 0) rfl
            have r1 := HS9.out.cell 0 rfl (k := 1) rfl
            have r2 := HS9.out.cell 0 rfl (k := 2) rfl
            have r3 := HS9.out.cell 0 rfl (k := 3) rfl
            have u0 := HS9.out.froz 0 rfl (k := 0)
            have u1 := HS9.out.froz 0 rfl (k := 1)
            have u2 := HS9.out.froz 0 rfl (k := 2)
            have u3 := HS9.out.froz 0 rfl (k := 3)
            have HF := Lib.hid (setFour HS9.out 0 rfl (.int .i64 0) (.string ⟨#[]⟩) (.string ⟨#[]⟩) (.int .i64 0))
            have f0 := HF.out.cell 0 rfl (k := 0) rfl
            have f1 := HF.out.cell 0 rfl (k := 1) rfl
            have f2 := HF.out.cell 0 rfl (k := 2) rfl
            have f3 := HF.out.cell 0 rfl (k := 3) rfl
            clear HS9
            go_wp2
            refine bodyPost_ret (v := .agg #[.int .i64 0, .string ⟨#[]⟩, .string ⟨#[]⟩, .int .i64 0]) (by simp [results, Tryz.results21, asAddr, Result.andThen, go_sem, f0, f1, f2, f3]) rfl ?_
            exact ⟨⟨0, ⟨#[]⟩, ⟨#[]⟩, 0⟩, rfl, HRD.out, HOK.out, HF.out.below⟩
end Bn
end Go.Proofs.YtgfldhdmdeeknaaGreatDoor
