/-
  Walk of the reference's LMount.
-/
import Derived.Test.YtljdfkejhgaciaaMountW4
namespace Go.Proofs.Ytljdfkejhgaciaa
open Go.RowKit Go.Shelf
namespace Mount

/-- what the descending scan holds: the first hit at place k or beyond -/
theorem idx_step {f : Int} {ps : List Pg} {k : Nat} {x : Pg} (hx : ps[k]? = some x) : idxP f (ps.drop k) k = if hit f x then (k : Int) else idxP f (ps.drop (k + 1)) (k + 1) := by
  rw [drop_at hx, idxP]

theorem wp_call_ret {P : Program} {o : Oper} {a : Act} {w : World} {K : Act → World → Prop} {Q : Exit → Act → World → Prop} {R : Ending → World → Prop} (f : FuncId) (args : Array Value)
    (hrun : (execOp a.eval o).run P w = .ok (.enter f args) w) (hc : Calls P f args w R) (h : ∀ e w', R e w' → ∃ v, e = .returned v ∧ K (a.put o.dst v) w') : o.wp P a w K Q := by
  unfold Oper.wp
  rw [hrun, Oper.upon_enter]
  exact hc.mono fun e w' hr => by
    obtain ⟨v, rfl, hk⟩ := h e w' hr
    exact hk

theorem wp_run_val {P : Program} {o : Oper} {a : Act} {w w' : World} {K : Act → World → Prop} {Q : Exit → Act → World → Prop} (v : Value) (hrun : (execOp a.eval o).run P w = .ok (.value v) w') (h : K (a.put o.dst v) w') : o.wp P a w K Q := by
  unfold Oper.wp
  rw [hrun]
  exact h

set_option maxHeartbeats 1600000 in
theorem lmount_any (l : List Int) (f0 : Int) (A : Option Addr) (n c : Nat) (ps : List Pg) (w : World) (hl : l.length = 16) (hr : Rd w w.heap.size 4 A n (ps.flatMap Pg.cells)) (hps : ps.length = n) (hn : n ≤ 9223372036854775807) (hnc : n ≤ c) (hcn : c ≤ 9223372036854775807) :
    Calls Try.prog 19 #[.agg (arr l), .int .i64 f0, .slice A n c] w (Ret w (mval (mountL l f0 ps))) := by
  have HL := Lib.hid hl
  have HR := Lib.hid hr
  have HP := Lib.hid hps
  have G0 : Hid (Ints ((w.alloc (.cells (arr l) 37)).alloc (.cells (arr zero16) 37)) w.heap.size 37 l) := Lib.hid ((Ints.new w _ l).alloc _)
  have G2 : Hid (Ints ((w.alloc (.cells (arr l) 37)).alloc (.cells (arr zero16) 37)) (w.heap.size + 1) 37 zero16) := Lib.hid (by
    have := Ints.new (w.alloc (.cells (arr l) 37)) 37 zero16
    rwa [show (w.alloc (.cells (arr l) 37)).heap.size = w.heap.size + 1 by simp] at this)
  have hB0 : Below w.heap.size w ((w.alloc (.cells (arr l) 37)).alloc (.cells (arr zero16) 37)) := ((Below.refl _ _).alloc (Nat.le_refl _) _).alloc (by simp) _
  clear hr hps hl
  by_cases h0 : f0 < 0
  · have HE : Hid (mountL l f0 ps = (zero16, 0, 2)) := Lib.hid (by rw [mountL, if_pos (by omega)])
    go_enter Try.func19, Try.ntmps19
    go_wp2_with (refine wpList_store_row rfl 37 (.tmp 6) (.tmp 19) rfl (w.heap.size + 1) (arr zero16) rfl rfl 37 (arr zero16) G2.out info16 rfl (by kernel_rfl) ?_)
    have hld := load16 (G2.out.row zero16) rfl
    have hB3 := below_setRow hB0 (show w.heap.size ≤ w.heap.size + 1 by omega) (arr zero16)
    refine bodyPost_ret (v := mval (zero16, 0, 2)) ?_ rfl ?_
    · simp [results, Try.results19, asAddr, Result.andThen, mval]
      erw [hld]; rfl
    · exact ⟨by rw [HE.out], hB3⟩
  by_cases h1 : 1099511627776 < f0
  · have HE : Hid (mountL l f0 ps = (zero16, 0, 2)) := Lib.hid (by rw [mountL, if_pos (by omega)])
    go_enter Try.func19, Try.ntmps19
    go_wp2_with (refine wpList_store_row rfl 37 (.tmp 6) (.tmp 19) rfl (w.heap.size + 1) (arr zero16) rfl rfl 37 (arr zero16) G2.out info16 rfl (by kernel_rfl) ?_)
    have hld := load16 (G2.out.row zero16) rfl
    have hB3 := below_setRow hB0 (show w.heap.size ≤ w.heap.size + 1 by omega) (arr zero16)
    refine bodyPost_ret (v := mval (zero16, 0, 2)) ?_ rfl ?_
    · simp [results, Try.results19, asAddr, Result.andThen, mval]
      erw [hld]; rfl
    · exact ⟨by rw [HE.out], hB3⟩
  have hM : Hid (mountL l f0 ps = mountN ps (n + 1) l f0) := Lib.hid (by rw [mountL, if_neg (by omega), HP.out])
  go_enter Try.func19, Try.ntmps19
  go_wp2_with fail
  go_loopg [1] (n + 1) (fun g i wr => ∃ (q j : Nat) (cur : List Int) (f : Int), g = q ∧ i = .int .i64 f ∧ j + q ≤ n + 1 ∧ Hid (left f0 ps j < q) ∧ Hid (f = wrap64 (f0 + j)) ∧ Hid (mountL l f0 ps = mountN ps q cur f) ∧ cur.length = 16 ∧ Ints wr w.heap.size 37 cur ∧ Ints wr (w.heap.size + 1) 37 zero16 ∧ Below w.heap.size w wr)
  case atStart => exact ⟨n + 1, 0, l, f0, rfl, rfl, by omega, Lib.hid (by have := left_le f0 ps 0; have := HP.out; omega), Lib.hid (by unfold wrap64; simp; omega), hM, HL.out, G0.out, G2.out, hB0⟩
  case round =>
    obtain ⟨q, j, cur, f, hgq, rfl, hj, HLT, HW, HF, hcl, hi, hz, hB⟩ := hrel
    have hz1 := hz.lt
    have HI := Lib.hid hi
    have HZ := Lib.hid hz
    obtain ⟨g, rfl⟩ : ∃ g, q = g + 1 := ⟨q - 1, by have := HLT.out; omega⟩
    subst hgq
    clear hi hz G0 G2 hB0 hM
    go_wp2_with fail
    go_loopg [9, 10] n (fun h at_ i wi => ∃ (k : Nat) (z y : Int), k ≤ n ∧ h = k ∧ i = .int .i64 z ∧ z = (k : Int) - 1 ∧ at_ = .int .i64 y ∧ Hid (y = idxP f (ps.drop k) k) ∧ Below wr.heap.size wr wi)
    case atStart => exact ⟨n, _, -1, Nat.le_refl _, rfl, rfl, rfl, rfl, Lib.hid (by rw [List.drop_eq_nil_of_le (by rw [HP.out]; omega), idxP]), Below.refl _ _⟩
    case round =>
      obtain ⟨k, z, y, hk, hgk, rfl, hzk, rfl, HY, hBi⟩ := hrel
      have hBw := hB.trans (hBi.mono hB.size)
      rcases Nat.eq_zero_or_pos k with rfl | hk0
      · subst hgk
        obtain rfl : z = -1 := by omega
        clear hzk hk
        have HI1 := Lib.hid (HI.out.later hBi)
        have HZ1 := Lib.hid (HZ.out.later hBi)
        have HY' : Hid (y = idxP f ps 0) := Lib.hid (by have := HY.out; simpa using this)
        clear HY
        rcases idx_cases f ps 0 with hx | ⟨m, p, hx, hp, hh⟩
        · obtain rfl : y = -1 := by rw [HY'.out]; exact hx
          have HE : Hid (mountL l f0 ps = (cur, f, 0)) := Lib.hid (by rw [HF.out, mount_stop hx])
          clear hx HF
          go_wp2_with (first
            | refine wpList_load_row rfl 37 (.tmp 3) rfl w.heap.size rfl 37 (arr cur) (0, 0) (.array 16 3) HI1.out Try.underlying37 rfl (size16 hcl) ?_
            | refine wpList_store_row rfl 37 (.tmp 6) (.tmp 44) rfl (w.heap.size + 1) (arr cur) rfl rfl 37 (arr zero16) HZ1.out (size16 hcl) (by rw [arr_size, arr_size, hcl]; rfl) (arr_one cur) ?_)
          have hld := load16 (HZ1.out.row cur) hcl
          have hB3 := below_setRow hBw (show w.heap.size ≤ w.heap.size + 1 by omega) (arr cur)
          refine bodyPost_ret (v := mval (cur, f, 0)) ?_ rfl ?_
          · simp [results, Try.results19, asAddr, Result.andThen, mval]
            erw [hld]
          · exact ⟨by rw [HE.out], hB3⟩
        · simp only [Nat.zero_add] at hx
          obtain rfl : y = (m : Int) := by rw [HY'.out]; exact hx
          have hm : m < n := by rw [← HP.out]; exact (List.getElem?_eq_some_iff.1 hp).1
          obtain ⟨b, off, rfl, hb, hc⟩ := Rd_pages HR.out (by omega)
          have hseq : p.seq = f := by simp [hit] at hh; exact hh.2
          have HLN := Lib.hid (left_next p (List.mem_of_getElem? hp) (rank_of HW.out (by omega) hseq))
          have HWN := Lib.hid (wrap_next HW.out)
          have rd1 : ∀ W, Below wr.heap.size wr W → Rd W W.heap.size 4 (some ⟨b, off + m * 4, none⟩) 1 ([p].flatMap Pg.cells) := fun W hW => by
            have hbW := hBw.trans (hW.mono hBw.size)
            refine ⟨by simp [Pg.cells], fun _ => ⟨b, off + m * 4, rfl, Nat.lt_of_lt_of_le hb hbW.size, fun i u hu => ?_⟩⟩
            rw [hbW.cell hb, Nat.add_assoc]
            exact hc m i p u hp (by simpa using hu)
          have cL := Lib.hid (fun W hW => lfold_any cur (some ⟨b, off + m * 4, none⟩) 1 (c - m) [p] W hcl (rd1 W hW) rfl (by omega))
          have i0 : (0 : Int) ≤ (m : Int) := by omega
          have i1 : (m : Int) + 1 ≤ (c : Int) := by omega
          clear rd1 hc hh hseq HY'
          go_upto_region 11 with (fail)
          refine wp_region_held (S := fun W => Below wr.heap.size wr W) (by kernel_rfl) ?_
          have s0 : Below wr.heap.size wr { wr with drawn := wr.drawn + 1 } := (Below.refl _ _).drew
          generalize ({ wr with drawn := wr.drawn + 1 } : World) = w2 at s0 ⊢
          refine wpAnyH_take (i := 0) (v := .agg (arr cur)) (Eq.refl (some (⟨some 47, _, _, _, _, _⟩ : Oper))) (by kernel_rfl) (by kernel_rfl) (by kernel_rfl) (fun _ _ _ h => h) (Or.inl ⟨rfl, fun W hW => ?_⟩) s0 ?_
          · exact load_exec _ _ _ _ rfl (by simp only [Instr.loadAt, Instr.sureAddr, Sem.run_bind, Result.andThen]; exact load16 (HI1.out.later hW) hcl)
          refine wpAnyH_take (i := 1) (v := .slice (some ⟨b, off, none⟩) n c) (Eq.refl (some (⟨some 48, _, _, _, _, _⟩ : Oper))) (by kernel_rfl) (by kernel_rfl) (by kernel_rfl) (fun _ _ _ h => h) (Or.inl ⟨rfl, fun W hW => rfl⟩) s0 ?_
          refine wpAnyH_take (i := 2) (v := .int .i64 m) (Eq.refl (some (⟨some 49, _, _, _, _, _⟩ : Oper))) (by kernel_rfl) (by kernel_rfl) (by kernel_rfl) (fun _ _ _ h => h) (Or.inl ⟨rfl, fun W hW => rfl⟩) s0 ?_
          refine wpAnyH_take (i := 3) (v := .int .i64 m) (Eq.refl (some (⟨some 50, _, _, _, _, _⟩ : Oper))) (by kernel_rfl) (by kernel_rfl) (by kernel_rfl) (fun _ _ _ h => h) (Or.inl ⟨rfl, fun W hW => rfl⟩) s0 ?_
          refine wpAnyH_take (i := 4) (v := .int .i64 ((m : Int) + 1)) (Eq.refl (some (⟨some 51, _, _, _, _, _⟩ : Oper))) (by kernel_rfl) (by kernel_rfl) (by kernel_rfl) (fun _ _ _ h => h) (Or.inl ⟨rfl, fun W hW => ?_⟩) s0 ?_
          · simp only [Act.put, List.setIfInBounds_toArray]
            go_simp
            first | go_num | (simp only [IntKind.wrap, IntKind.bits, IntKind.signed]; simp; omega)
          have hcl2 : ¬ c = m := by omega
          have e1 : (m : Int) ≤ (m : Int) + 1 := by omega
          refine wpAnyH_take (i := 5) (v := .slice (some ⟨b, off + m * 4, none⟩) 1 (c - m)) (Eq.refl (some (⟨some 52, _, _, _, _, _⟩ : Oper))) (by kernel_rfl) (by kernel_rfl) (by kernel_rfl) (fun _ _ _ h => h) (Or.inl ⟨rfl, fun W hW => ?_⟩) s0 ?_
          · simp only [Act.put, List.setIfInBounds_toArray]
            go_simp
          refine wpAnyH_all (rs := [6, 10]) (by kernel_rfl) (by simp) (fun i hi => ?_)
          have HRL := Lib.hid (foldL_len [p] cur hcl)
          have HFR : Hid (foldL cur [p] = if p.bad then (zero16, 2) else (setP cur p, 0)) := Lib.hid (by simp [foldL])
          generalize foldL cur [p] = fr at HRL HFR cL
          rcases List.mem_cons.1 hi with rfl | hi
          · refine wpOp_at (Eq.refl (some (⟨some 53, _, _, _, _, _⟩ : Oper))) rfl ?_
            refine wp_call_ret 17 #[.agg (arr cur), .slice (some ⟨b, off + m * 4, none⟩) 1 (c - m)] ?_ (cL.out _ s0) ?_
            · simp only [Act.put, List.setIfInBounds_toArray]
              go_simp
            rintro e w3 ⟨rfl, hb3⟩
            have s3 := s0.trans (hb3.mono s0.size)
            refine ⟨_, rfl, s3, ?_⟩
            simp only [Act.put]
            refine wpAnyH_take (i := 7) (v := .tuple #[.agg (arr fr.1), .int .i64 fr.2]) (Eq.refl (some (⟨some 46, _, _, _, _, _⟩ : Oper))) (by kernel_rfl) (by kernel_rfl) (by kernel_rfl) (fun _ _ _ h => h) (Or.inl ⟨by rfl, fun W hW => by go_simp⟩) s3 ?_
            simp only [Act.put, List.setIfInBounds_toArray]
            refine wpAnyH_take (i := 8) (v := .agg (arr fr.1)) (Eq.refl (some (⟨some 54, _, _, _, _, _⟩ : Oper))) (by kernel_rfl) (by kernel_rfl) (by kernel_rfl) (fun _ _ _ h => h) (Or.inl ⟨by rfl, fun W hW => by go_simp⟩) s3 ?_
            simp only [Act.put, List.setIfInBounds_toArray]
            refine wpAnyH_take (i := 9) (v := .int .i64 fr.2) (Eq.refl (some (⟨some 55, _, _, _, _, _⟩ : Oper))) (by kernel_rfl) (by kernel_rfl) (by kernel_rfl) (fun _ _ _ h => h) (Or.inl ⟨by rfl, fun W hW => by go_simp⟩) s3 ?_
            simp only [Act.put, List.setIfInBounds_toArray]
            refine wpAnyH_all (rs := [10]) (by kernel_rfl) (by simp) (fun i hi => ?_)
            obtain rfl : i = 10 := by simpa using hi
            refine wpOp_at (Eq.refl (some (⟨some 11, _, _, _, _, _⟩ : Oper))) rfl ?_
            refine wp_run_val (w' := w3.alloc (.cells (arr zero16) 37)) (.pointer (some ⟨w3.heap.size, 0, none⟩)) ?_ ?_
            · go_simp
              rfl
            have s4 := s3.alloc s3.size (.cells (arr zero16) 37)
            have n4 := Ints.new w3 37 zero16
            refine ⟨s4, ?_⟩
            simp only [Act.put, List.setIfInBounds_toArray]
            refine wpAnyH_all (rs := [11]) (by kernel_rfl) (by simp) (fun i hi => ?_)
            obtain rfl : i = 11 := by simpa using hi
            refine wpOp_at (Eq.refl (some (⟨none, _, _, _, _, _⟩ : Oper))) rfl ?_
            simp only [List.set_cons_succ, List.set_cons_zero]
            refine wp_store_row 37 (.tmp 11) (.tmp 54) rfl w3.heap.size (arr fr.1) rfl rfl 37 (arr zero16) n4 (size16 HRL.out) (by rw [arr_size, arr_size, HRL.out]; rfl) (arr_one fr.1) ?_
            have s5 := below_setRow s4 (show wr.heap.size ≤ w3.heap.size by exact s3.size) (arr fr.1)
            have n5 := n4.row fr.1
            refine ⟨s5, ?_⟩
            simp only [Act.put]
            refine wpAnyH_take (i := 12) (v := .int .i64 fr.2) (Eq.refl (some (⟨some 12, _, _, _, _, _⟩ : Oper))) (by kernel_rfl) (by kernel_rfl) (by kernel_rfl) (fun _ _ _ h => h) (Or.inl ⟨by rfl, fun W hW => by go_simp⟩) s5 ?_
            simp only [Act.put, List.setIfInBounds_toArray]
            refine wpAnyH_done (by kernel_rfl) ?_ _
            generalize hW5 : (w3.alloc (.cells (arr zero16) 37)).setRow w3.heap.size (arr fr.1) = W5 at s5 n5 ⊢
            generalize hg5 : w3.heap.size = g5 at n5 ⊢
            have hgt : wr.heap.size ≤ g5 := by rw [← hg5]; exact s3.size
            clear hW5 hg5 n4 s4
            have hBW := hBw.trans (s5.mono hBw.size)
            have HI6 := Lib.hid (HI1.out.later s5)
            have HZ6 := Lib.hid (HZ1.out.later s5)
            have N5 := Lib.hid n5
            clear n5 cL e1 hcl2
            cases hbd : p.bad with
            | true =>
              have HE : Hid (mountL l f0 ps = (zero16, 0, 2)) := Lib.hid (by rw [HF.out, mount_bad hx hp hbd])
              obtain rfl : fr = (zero16, 2) := by rw [HFR.out, if_pos hbd]
              clear HF hx hp hbd HFR
              try simp only
              go_wp2_with (refine wpList_store_row rfl 37 (.tmp 6) (.tmp 58) rfl (w.heap.size + 1) (arr zero16) rfl rfl 37 (arr zero16) HZ6.out info16 rfl (by kernel_rfl) ?_)
              have hld := load16 (HZ6.out.row zero16) rfl
              have hB7 := below_setRow hBW (show w.heap.size ≤ w.heap.size + 1 by omega) (arr zero16)
              refine bodyPost_ret (v := mval (zero16, 0, 2)) ?_ rfl ?_
              · simp [results, Try.results19, asAddr, Result.andThen, mval]
                erw [hld]
              · exact ⟨by rw [HE.out], hB7⟩
            | false =>
              have HE : Hid (mountL l f0 ps = mountN ps g (setP cur p) (wrap64 (f + 1))) := Lib.hid (by rw [HF.out, mount_go hx hp hbd])
              obtain rfl : fr = (setP cur p, 0) := by rw [HFR.out, hbd]; simp
              have hsl : (setP cur p).length = 16 := by rw [setP_len]; exact hcl
              clear HF hx hp hbd HFR
              try simp only at N5 ⊢
              go_wp2_with (first
                | refine wpList_load_row rfl 37 (.tmp 11) rfl g5 rfl 37 (arr (setP cur p)) (0, 0) (.array 16 3) N5.out Try.underlying37 rfl (size16 hsl) ?_
                | refine wpList_store_row rfl 37 (.tmp 3) (.tmp 60) rfl w.heap.size (arr (setP cur p)) rfl rfl 37 (arr cur) HI6.out (size16 hsl) (by rw [arr_size, arr_size, hsl, hcl]) (arr_one _) ?_)
              have hB7 := below_setRow hBW (Nat.le_refl _) (arr (setP cur p))
              have hi7 := HI6.out.row (setP cur p)
              have hz7 := HZ6.out.rowOther (g' := w.heap.size) (by omega) (arr (setP cur p))
              go_roundg g
              case measure => omega
              case rel => exact ⟨g, j + 1, setP cur p, wrap64 (f + 1), rfl, rfl, by omega, Lib.hid (by have := HLN.out; have := HLT.out; omega), HWN, HE, hsl, hi7, hz7, hB7⟩
          · obtain rfl : i = 10 := by simpa using hi
            refine wpOp_at (Eq.refl (some (⟨some 11, _, _, _, _, _⟩ : Oper))) rfl ?_
            refine wp_run_val (w' := w2.alloc (.cells (arr zero16) 37)) (.pointer (some ⟨w2.heap.size, 0, none⟩)) ?_ ?_
            · simp only [Act.put, List.setIfInBounds_toArray]
              go_simp
              rfl
            have s1 := s0.alloc s0.size (.cells (arr zero16) 37)
            have n1 := Ints.new w2 37 zero16
            have hz2 := s0.size
            refine ⟨s1, ?_⟩
            simp only [Act.put, List.setIfInBounds_toArray]
            refine wpAnyH_all (rs := [6]) (by kernel_rfl) (by simp) (fun i hi => ?_)
            obtain rfl : i = 6 := by simpa using hi
            refine wpOp_at (Eq.refl (some (⟨some 53, _, _, _, _, _⟩ : Oper))) rfl ?_
            refine wp_call_ret 17 #[.agg (arr cur), .slice (some ⟨b, off + m * 4, none⟩) 1 (c - m)] ?_ (cL.out _ s1) ?_
            · try simp only [Act.put, List.setIfInBounds_toArray]
              go_simp
            rintro e w3 ⟨rfl, hb3⟩
            have s4 := s1.trans (hb3.mono s1.size)
            have n4 := n1.later hb3
            refine ⟨_, rfl, s4, ?_⟩
            simp only [Act.put]
            refine wpAnyH_take (i := 7) (v := .tuple #[.agg (arr fr.1), .int .i64 fr.2]) (Eq.refl (some (⟨some 46, _, _, _, _, _⟩ : Oper))) (by kernel_rfl) (by kernel_rfl) (by kernel_rfl) (fun _ _ _ h => h) (Or.inl ⟨by rfl, fun W hW => by go_simp⟩) s4 ?_
            simp only [Act.put, List.setIfInBounds_toArray]
            refine wpAnyH_take (i := 8) (v := .agg (arr fr.1)) (Eq.refl (some (⟨some 54, _, _, _, _, _⟩ : Oper))) (by kernel_rfl) (by kernel_rfl) (by kernel_rfl) (fun _ _ _ h => h) (Or.inl ⟨by rfl, fun W hW => by go_simp⟩) s4 ?_
            simp only [Act.put, List.setIfInBounds_toArray]
            refine wpAnyH_take (i := 9) (v := .int .i64 fr.2) (Eq.refl (some (⟨some 55, _, _, _, _, _⟩ : Oper))) (by kernel_rfl) (by kernel_rfl) (by kernel_rfl) (fun _ _ _ h => h) (Or.inl ⟨by rfl, fun W hW => by go_simp⟩) s4 ?_
            simp only [Act.put, List.setIfInBounds_toArray]
            refine wpAnyH_all (rs := [11]) (by kernel_rfl) (by simp) (fun i hi => ?_)
            obtain rfl : i = 11 := by simpa using hi
            refine wpOp_at (Eq.refl (some (⟨none, _, _, _, _, _⟩ : Oper))) rfl ?_
            simp only [List.set_cons_succ, List.set_cons_zero]
            refine wp_store_row 37 (.tmp 11) (.tmp 54) rfl w2.heap.size (arr fr.1) rfl rfl 37 (arr zero16) n4 (size16 HRL.out) (by rw [arr_size, arr_size, HRL.out]; rfl) (arr_one fr.1) ?_
            have s5 := below_setRow s4 (show wr.heap.size ≤ w2.heap.size by exact hz2) (arr fr.1)
            have n5 := n4.row fr.1
            refine ⟨s5, ?_⟩
            simp only [Act.put]
            refine wpAnyH_take (i := 12) (v := .int .i64 fr.2) (Eq.refl (some (⟨some 12, _, _, _, _, _⟩ : Oper))) (by kernel_rfl) (by kernel_rfl) (by kernel_rfl) (fun _ _ _ h => h) (Or.inl ⟨by rfl, fun W hW => by go_simp⟩) s5 ?_
            simp only [Act.put, List.setIfInBounds_toArray]
            refine wpAnyH_done (by kernel_rfl) ?_ _
            generalize hW5 : w3.setRow w2.heap.size (arr fr.1) = W5 at s5 n5 ⊢
            generalize hg5 : w2.heap.size = g5 at n5 ⊢
            have hgt : wr.heap.size ≤ g5 := by rw [← hg5]; exact hz2
            clear hW5 hg5 n4 s4
            have hBW := hBw.trans (s5.mono hBw.size)
            have HI6 := Lib.hid (HI1.out.later s5)
            have HZ6 := Lib.hid (HZ1.out.later s5)
            have N5 := Lib.hid n5
            clear n5 cL e1 hcl2
            cases hbd : p.bad with
            | true =>
              have HE : Hid (mountL l f0 ps = (zero16, 0, 2)) := Lib.hid (by rw [HF.out, mount_bad hx hp hbd])
              obtain rfl : fr = (zero16, 2) := by rw [HFR.out, if_pos hbd]
              clear HF hx hp hbd HFR
              try simp only
              go_wp2_with (refine wpList_store_row rfl 37 (.tmp 6) (.tmp 58) rfl (w.heap.size + 1) (arr zero16) rfl rfl 37 (arr zero16) HZ6.out info16 rfl (by kernel_rfl) ?_)
              have hld := load16 (HZ6.out.row zero16) rfl
              have hB7 := below_setRow hBW (show w.heap.size ≤ w.heap.size + 1 by omega) (arr zero16)
              refine bodyPost_ret (v := mval (zero16, 0, 2)) ?_ rfl ?_
              · simp [results, Try.results19, asAddr, Result.andThen, mval]
                erw [hld]
              · exact ⟨by rw [HE.out], hB7⟩
            | false =>
              have HE : Hid (mountL l f0 ps = mountN ps g (setP cur p) (wrap64 (f + 1))) := Lib.hid (by rw [HF.out, mount_go hx hp hbd])
              obtain rfl : fr = (setP cur p, 0) := by rw [HFR.out, hbd]; simp
              have hsl : (setP cur p).length = 16 := by rw [setP_len]; exact hcl
              clear HF hx hp hbd HFR
              try simp only at N5 ⊢
              go_wp2_with (first
                | refine wpList_load_row rfl 37 (.tmp 11) rfl g5 rfl 37 (arr (setP cur p)) (0, 0) (.array 16 3) N5.out Try.underlying37 rfl (size16 hsl) ?_
                | refine wpList_store_row rfl 37 (.tmp 3) (.tmp 60) rfl w.heap.size (arr (setP cur p)) rfl rfl 37 (arr cur) HI6.out (size16 hsl) (by rw [arr_size, arr_size, hsl, hcl]) (arr_one _) ?_)
              have hB7 := below_setRow hBW (Nat.le_refl _) (arr (setP cur p))
              have hi7 := HI6.out.row (setP cur p)
              have hz7 := HZ6.out.rowOther (g' := w.heap.size) (by omega) (arr (setP cur p))
              go_roundg g
              case measure => omega
              case rel => exact ⟨g, j + 1, setP cur p, wrap64 (f + 1), rfl, rfl, by omega, Lib.hid (by have := HLN.out; have := HLT.out; omega), HWN, HE, hsl, hi7, hz7, hB7⟩
      · obtain ⟨r, rfl⟩ : ∃ r, k = r + 1 := ⟨k - 1, by omega⟩
        subst hgk
        obtain rfl : z = (r : Int) := by omega
        clear hzk
        obtain ⟨b, off, rfl, hb, hc⟩ := Rd_pages HR.out (by omega)
        obtain ⟨x, hx⟩ : ∃ x, ps[r]? = some x := ⟨_, List.getElem?_eq_getElem (by rw [HP.out]; omega)⟩
        obtain ⟨q0, q1, q2, q3⟩ := Pg.facts hb hBw hc hx
        have HS := Lib.hid (idx_step (f := f) hx)
        clear hc hx
        obtain ⟨xs, xn, xd, xw⟩ := x
        simp only at q0 q1 q2 q3
        have i0 : (0 : Int) ≤ (r : Int) := by omega
        have i1 : (r : Int) < (n : Int) := by omega
        cases xw with
        | false =>
          have HN : Hid (y = idxP f (ps.drop r) r) := Lib.hid (by rw [HS.out, hit]; simp; exact HY.out)
          go_wp2
          go_roundg r
          case measure => omega
          case rel => exact ⟨r, (r : Int) - 1, y, by omega, rfl, by go_num, rfl, rfl, HN, hBi⟩
        | true =>
          by_cases hs : xs = f
          · have ht : (xs == f) = true := by simpa using hs
            have HN : Hid ((r : Int) = idxP f (ps.drop r) r) := Lib.hid (by rw [HS.out, hit]; simp [hs])
            clear hs
            go_wp2
            go_roundg r
            case measure => omega
            case rel => exact ⟨r, (r : Int) - 1, r, by omega, rfl, by go_num, rfl, rfl, HN, hBi⟩
          · have ht : (xs == f) = false := by simpa using hs
            have HN : Hid (y = idxP f (ps.drop r) r) := Lib.hid (by rw [HS.out, hit]; simp [hs]; exact HY.out)
            clear hs
            go_wp2
            go_roundg r
            case measure => omega
            case rel => exact ⟨r, (r : Int) - 1, y, by omega, rfl, by go_num, rfl, rfl, HN, hBi⟩
end Mount
end Go.Proofs.Ytljdfkejhgaciaa
