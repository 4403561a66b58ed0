/-
  Walk of file.cut. Conditions: none beyond each theorem's own premises.
-/
import Derived.Test.YtfljbiobiobamaaFlW5
import Derived.Test.YtfljbiobiobamaaTail
namespace Go.Proofs.Ytfljbiobiobamaa
open Go.RowKit
set_option linter.unusedVariables false
namespace Fl

theorem pages_cut {bl : List (Nat × Nat)} {c : Nat → Nat} {n : Nat} (h : ∀ p ∈ bl, p.1 < n / 16) : bl.map (pI (cC c n)) = bl.map (pI c) := by
  refine List.map_congr_left fun p hp => ?_
  unfold pI
  rw [pg_cut_low _ _ _ (h p hp)]
theorem pages_edge {bl : List (Nat × Nat)} (hnd : (bl.map (·.1)).Nodup) {c : Nat → Nat} {n j g : Nat} (hb : ∀ p ∈ bl, p.1 ≤ n / 16) (hj : bl[j]? = some (n / 16, g)) :
    (bl.map (pI c)).set j (.cells g 115 (((pg c (n / 16)).map bV).take (n % 16) ++ List.replicate (16 - n % 16) (.int .u8 0))) = bl.map (pI (cC c n)) := by
  refine List.ext_getElem? fun i => ?_
  rw [List.getElem?_set, List.length_map]
  have hjl := (List.getElem?_eq_some_iff.1 hj).1
  by_cases e : j = i
  · subst e
    rw [if_pos rfl, if_pos hjl, List.getElem?_map, hj]
    show _ = some (It.cells g _ ((pg (cC c n) (n / 16)).map bV))
    rw [pg_cut_edge, List.map_append, List.map_take, List.map_replicate]
    rfl
  · rw [if_neg e, List.getElem?_map, List.getElem?_map]
    cases hi : bl[i]? with
    | none => rfl
    | some p =>
      have hne : p.1 ≠ n / 16 := fun e2 => by
        have h1 : (bl.map (·.1))[i]? = some (n / 16) := by rw [List.getElem?_map, hi, ← e2]; rfl
        have h2 : (bl.map (·.1))[j]? = some (n / 16) := by rw [List.getElem?_map, hj]; rfl
        exact e ((List.getElem?_inj (by rw [List.length_map]; exact hjl) hnd).1 (h2.trans h1.symm))
      have hle := hb p (List.mem_of_getElem? hi)
      show some (It.cells p.2 _ ((pg c p.1).map bV)) = some (It.cells p.2 _ ((pg (cC c n) p.1).map bV))
      rw [pg_cut_low _ _ _ (by omega)]

theorem slice_page (g r q : Nat) (h : 16 = r + (q + 1)) (W : World) : (Instr.sliceAt 115 (.pointer (some ⟨g, 0, none⟩)) (some (.int .i64 (r : Int))) none none).run Try.prog W = .ok (.slice (some ⟨g, r, none⟩) (q + 1) (q + 1)) W := by
  have ht : Try.prog.underlying 115 = some (.array (Try.prog.arrayLen 115) (Try.prog.elem 115)) := by kernel_rfl
  have hal : Try.prog.arrayLen 115 = 16 := by kernel_rfl
  have hel : Try.prog.elem 115 = 5 := by kernel_rfl
  obtain ⟨i0, hi, hz0, hz1, hz2⟩ := info_parts byte_info
  rw [run_sliceAt_array_l W _ ⟨g, 0, none⟩ ht .i64 (r : Int) (by omega) (by rw [hal]; omega), hel, size_of_info hi hz1 W, hal]
  have e1 : (r : Int).toNat = r := by omega
  simp only [Result.andThen, slicedAt, e1, Nat.mul_one]
  rw [show 16 - r = q + 1 by omega]
  by_cases h16 : 16 = r
  · omega
  · rw [if_neg h16]
    by_cases hr0 : r = 0
    · subst hr0; simp [Addr.add]
    · simp [Addr.add, hr0]

set_option maxRecDepth 100000 in
set_option maxHeartbeats 3200000 in
theorem fcut_any (gf gm : Nat) (s : Sf) (bl : List (Nat × Nat)) (J : List It) (n : Nat) (w0 w : World) (hs : Sep w0 w (FL gf gm s.L bl s.c J)) (hk : PK bl s.P) (ho : s.Ok) (hn : n ≤ 4096) :
    Calls Try.prog 29 #[.pointer (some ⟨gf, 0, none⟩), .int .i64 (n : Int)] w (fun e w' => e = .returned (.tuple #[]) ∧ ∃ bl', PK bl' (s.cut n).P ∧ Sep w0 w' (FL gf gm n bl' (s.cut n).c J)) := by
  have hmf : ∀ (fn : Fn) (first cap : Array Value) (w : World), (Instr.makeFunc fn first cap).run Try.prog w = .ok (.func fn first cap) w := fun _ _ _ _ => rfl
  have HS1 : Hid (Sep w0 (w.alloc (.cells #[.int .i64 (n : Int)] 3)) (fI gf gm s.L :: mI gm bl :: ((bl.map (pI s.c) ++ J) ++ [.cells w.heap.size 3 [.int .i64 (n : Int)]]))) := Lib.hid (hs.new 3 [.int .i64 (n : Int)])
  have HK := Lib.hid hk
  have HO := Lib.hid ho
  clear hs hk ho
  go_enter Try.func29, Try.ntmps29
  go_upto_region 1 with (fail)
  generalize w.alloc (.cells #[.int .i64 (n : Int)] 3) = wo at HS1 ⊢
  generalize w.heap.size = gn at HS1 ⊢
  have f0 := HS1.out.cell 0 rfl (k := 0) rfl
  have cD := Lib.hid (delf_any w0 wo (fI gf gm s.L) ((bl.map (pI s.c) ++ J) ++ [It.cells gn 3 [.int .i64 (n : Int)]]) (bl.map (pI s.c) ++ J).length gm gn n bl.length (hB bl) HS1.out (at_last _ _) (fun x hx => by
    rw [hB_some, List.mem_map] at hx
    obtain ⟨p, hp, rfl⟩ := hx
    have := HK.out.lt p.1 ((HK.out.mem p.1).2 (List.mem_map.2 ⟨p, hp, rfl⟩))
    omega))
  go_wp2_with fail
  refine cD.out.mono ?_; rintro en w1 ⟨rfl, nn, h2⟩
  rw [find_filter HK.out n] at h2
  have hcnt := map_count h2 1 rfl (HK.out.cut n).nd
  have c1 := h2.cell ((bl.map (pI s.c) ++ J).length + 2) (it_last (I := .cells gn 3 [.int .i64 (n : Int)]) _) (k := 0) rfl
  have HS3 : Hid (Sep w0 w1 (FL gf gm s.L (bl.filter fun p => decide (16 * p.1 < n)) s.c (J ++ [It.cells gn 3 [.int .i64 (n : Int)]]))) := Lib.hid (by
    unfold FL mI
    rw [← hcnt]
    refine h2.sub (List.Sublist.cons_cons _ (List.Sublist.cons_cons _ ?_))
    rw [List.append_assoc]
    exact List.Sublist.append_right (List.filter_sublist.map _) _)
  have HKC := Lib.hid (HK.out.cut n)
  have HLE : Hid (∀ p ∈ bl.filter (fun p => decide (16 * p.1 < n)), 16 * p.1 < n) := Lib.hid (fun p hp => of_decide_eq_true (List.mem_filter.1 hp).2)
  clear cD f0 h2 hcnt HS1 hmf HK
  generalize (bl.filter fun p => decide (16 * p.1 < n)) = bq at HS3 HKC HLE
  have f1 := HS3.out.cell 0 rfl (k := 0) rfl
  obtain ⟨K, hKe⟩ : ∃ K, K = n / 16 := ⟨_, rfl⟩
  obtain ⟨r, hre⟩ : ∃ r, r = n % 16 := ⟨_, rfl⟩
  have q1 : Int.tdiv (n : Int) 16 = (K : Int) := by rw [hKe]; exact quo16 n
  have q3 : (n : Int) / 16 = (K : Int) := by rw [hKe]; rfl
  have q2 : Int.tmod (n : Int) 16 = (r : Int) := by rw [hre]; exact rem16 n
  have q4 : (n : Int) % 16 = (r : Int) := by rw [hre]; rfl
  have hK4 : K < 4096 := by omega
  have r0 : r < 16 := by omega
  have HKE := Lib.hid hKe
  have HRE := Lib.hid hre
  clear hKe hre
  have hwr : IntKind.i64.wrap (K : Int) = (K : Int) := by
    simp [IntKind.wrap, IntKind.bits, IntKind.signed]
    omega
  have hlk := fun m : Nat => (HS3.out.drewN m).look 1 rfl kintL (wf_nat hK4) Try.underlying72 (pz (w1.drewN m))
  cases hP : (s.cut n).P K with
  | false =>
    rw [HKC.out.none hP] at hlk
    simp only [Option.elim] at hlk
    have HF : Hid (∀ p ∈ bq, p.1 < n / 16) := Lib.hid (fun p hp => by
      have h1 := HLE.out p hp
      have h4 := HKE.out
      have h2 : p.1 ≠ K := fun e => by
        have h3 := (HKC.out.mem p.1).2 (List.mem_map.2 ⟨p, hp, rfl⟩)
        rw [e, hP] at h3
        cases h3
      omega)
    clear hP
    have C1 := Lib.hid c1
    go_upto_region 2 with (fail)
    go_quiet (fail)
    clear f1 c1 hlk
    generalize hxw : World.drewN w1 _ = xw
    have xh : Below w1.heap.size w1 xw := by rw [← hxw]; exact below_drewN (Below.refl _ _) _
    clear hxw
    have HS4 := Lib.hid (HS3.out.later xh)
    have c2 := (xh.cell (World.block_lt_of_cell? w1 _ C1.out)).trans C1.out
    have f2 := HS4.out.cell 0 rfl (k := 1) rfl
    have v2 := HS4.out.froz 0 rfl (k := 1)
    have HS5 := Lib.hid (HS4.out.set 0 rfl (k := 1) (.int .i64 (n : Int)))
    clear HS4 HS3
    go_wp2
    refine bodyPost_end (v := .tuple #[]) (by simp [results, Try.results29]) rfl ?_
    refine ⟨rfl, bq, HKC.out, ?_⟩
    have h5 : Sep w0 _ (FL gf gm n bq s.c (J ++ [It.cells gn 3 [.int .i64 (n : Int)]])) := HS5.out
    have e : FL gf gm n bq (s.cut n).c J = FL gf gm n bq s.c J := by
      unfold FL
      rw [show bq.map (pI (s.cut n).c) = bq.map (pI s.c) from pages_cut HF.out]
    rw [e]
    refine h5.sub ?_
    unfold FL
    exact List.Sublist.cons_cons _ (List.Sublist.cons_cons _ (List.Sublist.append_left (List.sublist_append_left _ _) _))
  | true =>
    obtain ⟨j, g, hj, hh⟩ := HKC.out.find hP
    rw [hh] at hlk
    simp only [Option.elim, pE] at hlk
    have C1 := Lib.hid c1
    go_upto_region 2 with (fail)
    go_quiet (fail)
    clear f1 c1 hlk
    generalize hxw : World.drewN w1 _ = u1
    have xh : Below w1.heap.size w1 u1 := by rw [← hxw]; exact below_drewN (Below.refl _ _) _
    clear hxw
    have xh1 := xh
    clear xh
    have HS4 := Lib.hid (HS3.out.later xh1)
    have c2 := (xh1.cell (World.block_lt_of_cell? w1 _ C1.out)).trans C1.out
    have c3 := fun z : LaterOf u1 => z.cell c2
    have hwr2 : IntKind.i64.wrap (r : Int) = (r : Int) := by
      simp [IntKind.wrap, IntKind.bits, IntKind.signed]
      omega
    obtain ⟨q, hq⟩ : ∃ q, 16 = r + (q + 1) := ⟨15 - r, by omega⟩
    have hslc := slice_page g r q hq
    go_upto_region 4 with (fail)
    (refine wp_region_tail 5 (by kernel_rfl) (by kernel_rfl) ?_; simp only [List.take_succ_cons, List.take_zero, List.drop_succ_cons, List.drop_zero]; repeat (go_big_quiet_step (fail)))
    refine wpQuiet_nil ?_; intro xw hw'; obtain ⟨xq, hw''⟩ := hw'; obtain ⟨xw0, xh⟩ := xq; change xw = xw0 at hw''; subst hw''
    have HS5 := HS4.out.later xh
    obtain ⟨w9, hcl, h9⟩ := run_clear HS5 (j + 2) (fl_at hj) r q (q + 1) (by rw [List.length_map, pg_len]; exact hq)
    have HS9 : Hid (Sep w0 w9 (FL gf gm s.L bq (s.cut n).c (J ++ [It.cells gn 3 [.int .i64 (n : Int)]]))) := Lib.hid (by
      rw [HKE.out] at hj h9
      rw [show q + 1 = 16 - n % 16 by have := HRE.out; omega, HRE.out] at h9
      have e := pages_edge HKC.out.nd (c := s.c) (n := n) (fun p hp => by have := HLE.out p hp; omega) hj
      have hl := (List.getElem?_eq_some_iff.1 hj).1
      unfold FL at h9 ⊢
      rw [List.set_cons_succ, List.set_cons_succ, List.set_append_left _ _ (by rw [List.length_map]; exact hl), e] at h9
      exact h9)
    have f2 := HS9.out.cell 0 rfl (k := 1) rfl
    have v2 := HS9.out.froz 0 rfl (k := 1)
    have HSE := Lib.hid (HS9.out.set 0 rfl (k := 1) (.int .i64 (n : Int)))
    have hgn : w9.cell? ⟨gn, 0, none⟩ = some (.int .i64 (n : Int)) := by
      have hlen : (FL gf gm s.L bq (s.cut n).c (J ++ [It.cells gn 3 [.int .i64 (n : Int)]]))[(bq.map (pI (s.cut n).c) ++ J).length + 2]? = some (It.cells gn 3 [.int .i64 (n : Int)]) := by
        unfold FL
        rw [← List.append_assoc]
        exact it_last _
      exact HS9.out.cell _ hlen (k := 0) rfl
    clear HS5 h9 HS4 HS9 HS3
    go_wp2
    refine bodyPost_end (v := .tuple #[]) (by simp [results, Try.results29]) rfl ?_
    refine ⟨rfl, bq, HKC.out, ?_⟩
    have h5 : Sep w0 _ (FL gf gm n bq (s.cut n).c (J ++ [It.cells gn 3 [.int .i64 (n : Int)]])) := HSE.out
    refine h5.sub ?_
    unfold FL
    exact List.Sublist.cons_cons _ (List.Sublist.cons_cons _ (List.Sublist.append_left (List.sublist_append_left _ _) _))
end Fl
end Go.Proofs.Ytfljbiobiobamaa
