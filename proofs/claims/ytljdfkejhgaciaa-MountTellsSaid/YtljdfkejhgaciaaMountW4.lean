/-
  Walk of mount.Mount.
-/
import Derived.Test.YtljdfkejhgaciaaMountW3
import Derived.OrdersHeld
namespace Go.Proofs.Ytljdfkejhgaciaa
open Go.RowKit Go.Shelf
namespace Mount

def mval (r : List Int × Int × Int) : Value := .tuple #[.agg (arr r.1), .int .i64 r.2.1, .int .i64 r.2.2]

theorem wpOp_at {P : Program} {ops : Array Oper} {Q : Exit → Act → World → Prop} {K : Act → World → Prop} {i : Nat} {o : Oper} {a : Act} {w : World} (hi : ops[i]? = some o) (hw : Region.wanted o (yielded ops a.tmps) = true) (h : o.wp P a w K Q) : wpOp P ops Q i K a w := by
  unfold Go.wpOp
  simp only [hi, hw, if_true]
  exact .inl h
theorem load_exec {P : Program} (ev : Operand → Value) (o : Oper) (W : World) (v : Value) {ty : TypeId} {x : Operand} (ho : o.op = .load ty x) (h : (Instr.loadAt ty (ev x)).run P W = .ok v W) : (execOp ev o).run P W = .ok (.value v) W := by
  unfold execOp
  simp only [ho, Sem.run_bind, h, Result.andThen_ok, Sem.run_pure]
theorem loadInt {W : World} {g : Nat} {f : Int} (h : W.cell? ⟨g, 0, none⟩ = some (.int .i64 f)) : (Instr.loadAt 3 (.pointer (some ⟨g, 0, none⟩))).run Try.prog W = .ok (.int .i64 f) W := by
  simp [go_sem, h]

set_option maxHeartbeats 1600000 in
theorem mount_any (l : List Int) (f0 : Int) (A : Option Addr) (n c : Nat) (ps : List Pg) (w : World) (hl : l.length = 16) (hr : Rd w w.heap.size 4 A n (ps.flatMap Pg.cells)) (hps : ps.length = n) (hn : n ≤ 9223372036854775807) :
    Calls Try.prog 18 #[.agg (arr l), .int .i64 f0, .slice A n c] w (Ret w (mval (mountL l f0 ps))) := by
  have hmf : ∀ (fn : Fn) (first cap : Array Value) (w : World), (Instr.makeFunc fn first cap).run Try.prog w = .ok (.func fn first cap) w := fun _ _ _ _ => rfl
  have HL := Lib.hid hl
  have HR := Lib.hid hr
  have HP := Lib.hid hps
  have G0 : Hid (Ints (((w.alloc (.cells (arr l) 37)).alloc (.cells #[.int .i64 f0] 3)).alloc (.cells (arr zero16) 37)) w.heap.size 37 l) := Lib.hid (((Ints.new w _ l).alloc _).alloc _)
  have G1 : Hid (Ints (((w.alloc (.cells (arr l) 37)).alloc (.cells #[.int .i64 f0] 3)).alloc (.cells (arr zero16) 37)) (w.heap.size + 1) 3 [f0]) := Lib.hid (by
    have := (Ints.new (w.alloc (.cells (arr l) 37)) 3 [f0]).alloc (.cells (arr zero16) 37)
    rwa [show (w.alloc (.cells (arr l) 37)).heap.size = w.heap.size + 1 by simp] at this)
  have G2 : Hid (Ints (((w.alloc (.cells (arr l) 37)).alloc (.cells #[.int .i64 f0] 3)).alloc (.cells (arr zero16) 37)) (w.heap.size + 1 + 1) 37 zero16) := Lib.hid (by
    have := Ints.new ((w.alloc (.cells (arr l) 37)).alloc (.cells #[.int .i64 f0] 3)) 37 zero16
    rwa [show ((w.alloc (.cells (arr l) 37)).alloc (.cells #[.int .i64 f0] 3)).heap.size = w.heap.size + 1 + 1 by simp] at this)
  have hB0 : Below w.heap.size w (((w.alloc (.cells (arr l) 37)).alloc (.cells #[.int .i64 f0] 3)).alloc (.cells (arr zero16) 37)) :=
    (((Below.refl _ _).alloc (Nat.le_refl _) _).alloc (by simp) _).alloc (by simp; omega) _
  clear hr hps hl
  by_cases h0 : f0 < 0
  · have HE : Hid (mountL l f0 ps = (zero16, 0, 2)) := Lib.hid (by rw [mountL, if_pos (by omega)])
    go_enter Try.func18, Try.ntmps18
    go_wp2_with (refine wpList_store_row rfl 37 (.tmp 6) (.tmp 17) rfl (w.heap.size + 1 + 1) (arr zero16) rfl rfl 37 (arr zero16) G2.out info16 rfl (by kernel_rfl) ?_)
    have hld := load16 (G2.out.row zero16) rfl
    have hB3 := below_setRow hB0 (show w.heap.size ≤ w.heap.size + 1 + 1 by omega) (arr zero16)
    refine bodyPost_ret (v := mval (zero16, 0, 2)) ?_ rfl ?_
    · simp [results, Try.results18, asAddr, Result.andThen, mval]
      erw [hld]; rfl
    · exact ⟨by rw [HE.out], hB3⟩
  by_cases h1 : 1099511627776 < f0
  · have HE : Hid (mountL l f0 ps = (zero16, 0, 2)) := Lib.hid (by rw [mountL, if_pos (by omega)])
    go_enter Try.func18, Try.ntmps18
    go_wp2_with (refine wpList_store_row rfl 37 (.tmp 6) (.tmp 17) rfl (w.heap.size + 1 + 1) (arr zero16) rfl rfl 37 (arr zero16) G2.out info16 rfl (by kernel_rfl) ?_)
    have hld := load16 (G2.out.row zero16) rfl
    have hB3 := below_setRow hB0 (show w.heap.size ≤ w.heap.size + 1 + 1 by omega) (arr zero16)
    refine bodyPost_ret (v := mval (zero16, 0, 2)) ?_ rfl ?_
    · simp [results, Try.results18, asAddr, Result.andThen, mval]
      erw [hld]; rfl
    · exact ⟨by rw [HE.out], hB3⟩
  have hM : Hid (mountL l f0 ps = mountN ps (n + 1) l f0) := Lib.hid (by rw [mountL, if_neg (by omega), HP.out])
  go_enter Try.func18, Try.ntmps18
  go_wp2_with fail
  go_loopg [] (n + 1) (fun g wr => ∃ (q j : Nat) (cur : List Int) (f : Int), g = q ∧ j + q ≤ n + 1 ∧ Hid (left f0 ps j < q) ∧ Hid (f = wrap64 (f0 + j)) ∧ Hid (mountL l f0 ps = mountN ps q cur f) ∧ cur.length = 16 ∧ Ints wr w.heap.size 37 cur ∧ Ints wr (w.heap.size + 1) 3 [f] ∧ Ints wr (w.heap.size + 1 + 1) 37 zero16 ∧ Below w.heap.size w wr)
  case atStart => exact ⟨n + 1, 0, l, f0, rfl, by omega, Lib.hid (by have := left_le f0 ps 0; have := HP.out; omega), Lib.hid (by unfold wrap64; simp; omega), hM, HL.out, G0.out, G1.out, G2.out, hB0⟩
  case round =>
    obtain ⟨q, j, cur, f, hgq, hj, HLT, HW, HF, hcl, hi, hf, hz, hB⟩ := hrel
    have hf0 := hf.cell (k := 0) (x := f) rfl
    have hfz := hf.froz (k := 0)
    have hz1 := hz.lt
    have cI := Lib.hid (index_any A n c (w.heap.size + 1) f ps wr ((HR.out.below hB).more hB.size) HP.out hn hf0)
    have HI := Lib.hid hi
    have HFr := Lib.hid hf
    have HZ := Lib.hid hz
    obtain ⟨g, rfl⟩ : ∃ g, q = g + 1 := ⟨q - 1, by have := HLT.out; omega⟩
    subst hgq
    clear hi hf hz hf0 hfz
    rcases idx_cases f ps 0 with hx | ⟨m, p, hx, hp, hh⟩
    · have HE : Hid (mountL l f0 ps = (cur, f, 0)) := Lib.hid (by rw [HF.out, mount_stop hx])
      rw [hx] at cI
      clear hx HF
      go_wp2_with fail
      refine cI.out.mono ?_; rintro e w1 ⟨rfl, hb1⟩
      have hB1 := hB.trans (hb1.mono hB.size)
      have hi1 := HI.out.later hb1
      have hf1 := HFr.out.later hb1
      have hz1 := HZ.out.later hb1
      have HZ1 := Lib.hid hz1
      have HI1 := Lib.hid hi1
      go_upto_region 6 with (fail)
      refine wp_region_held (S := fun W => Ints W w.heap.size 37 cur ∧ Ints W (w.heap.size + 1) 3 [f]) (by kernel_rfl) ?_
      have s0 : Ints { w1 with drawn := w1.drawn + 1 } w.heap.size 37 cur ∧ Ints { w1 with drawn := w1.drawn + 1 } (w.heap.size + 1) 3 [f] := ⟨HI1.out, hf1⟩
      have s2 : Ints { w1 with drawn := w1.drawn + 1 } (w.heap.size + 1 + 1) 37 zero16 := HZ1.out
      have hB2 : Below w.heap.size w { w1 with drawn := w1.drawn + 1 } := hB1.drew
      generalize ({ w1 with drawn := w1.drawn + 1 } : World) = w2 at s0 s2 hB2 ⊢
      refine wpAnyH_take (i := 0) (v := .agg (arr cur)) rfl (by kernel_rfl) (by kernel_rfl) (by kernel_rfl) (fun _ _ _ h => h) (Or.inl ⟨rfl, fun W hW => ?_⟩) s0 ?_
      · exact load_exec _ _ _ _ rfl (by simp only [Instr.loadAt, Instr.sureAddr, Sem.run_bind, Result.andThen]; exact load16 hW.1 hcl)
      refine wpAnyH_take (i := 1) (v := .int .i64 f) rfl (by kernel_rfl) (by kernel_rfl) (by kernel_rfl) (fun _ _ _ h => h) (Or.inl ⟨rfl, fun W hW => ?_⟩) s0 ?_
      · exact load_exec _ _ _ _ rfl (loadInt (hW.2.cell (k := 0) rfl))
      refine wpAnyH_all (rs := [2]) (by kernel_rfl) (by simp) (fun i hi => ?_)
      obtain rfl : i = 2 := by simpa using hi
      refine wpOp_at rfl rfl ?_
      refine wp_store_row 37 (.tmp 6) (.tmp 25) rfl (w.heap.size + 1 + 1) (arr cur) rfl rfl 37 (arr zero16) s2 (size16 hcl) (by rw [arr_size, arr_size, hcl]; rfl) (arr_one cur) ?_
      have s3 : Ints (w2.setRow (w.heap.size + 1 + 1) (arr cur)) w.heap.size 37 cur ∧ Ints (w2.setRow (w.heap.size + 1 + 1) (arr cur)) (w.heap.size + 1) 3 [f] := ⟨s0.1.rowOther (by omega) _, s0.2.rowOther (by omega) _⟩
      have hld := load16 (s2.row cur) hcl
      have hB3 := below_setRow hB2 (show w.heap.size ≤ w.heap.size + 1 + 1 by omega) (arr cur)
      refine ⟨s3, ?_⟩
      refine wpAnyH_take (i := 3) (v := .int .i64 f) rfl (by kernel_rfl) (by kernel_rfl) (by kernel_rfl) (fun _ _ _ h => h) (Or.inl ⟨rfl, fun W hW => rfl⟩) s3 ?_
      refine wpAnyH_take (i := 4) (v := .int .i64 0) rfl (by kernel_rfl) (by kernel_rfl) (by kernel_rfl) (fun _ _ _ h => h) (Or.inl ⟨rfl, fun W hW => rfl⟩) s3 ?_
      refine wpAnyH_done (by kernel_rfl) ?_ _
      clear s0 s2 s3
      generalize w2.setRow (w.heap.size + 1 + 1) (arr cur) = w3 at hld hB3 ⊢
      go_wp2
      refine bodyPost_ret (v := mval (cur, f, 0)) ?_ rfl ?_
      · simp [results, Try.results18, Act.put, asAddr, Result.andThen, mval, hld]
      · exact ⟨by rw [HE.out], hB3⟩
    · have hm : m < n := by rw [← HP.out]; exact (List.getElem?_eq_some_iff.1 hp).1
      rw [hx] at cI
      simp only [Nat.zero_add] at cI hx
      obtain ⟨b, off, rfl, hb, hc⟩ := Rd_pages HR.out (by omega)
      have hseq : p.seq = f := by simp [hit] at hh; exact hh.2
      have hjn : j ≤ 9223372036854775807 := by omega
      have HLN := Lib.hid (left_next p (List.mem_of_getElem? hp) (rank_of HW.out hjn hseq))
      have HWN := Lib.hid (wrap_next HW.out)
      go_wp2_with fail
      refine cI.out.mono ?_; rintro e w1 ⟨rfl, hb1⟩
      have hB1 := hB.trans (hb1.mono hB.size)
      obtain ⟨q0, q1, q2, q3⟩ := Pg.facts hb hB1 hc hp
      have hi1 := HI.out.later hb1
      have hf1 := HFr.out.later hb1
      have hz1' := HZ.out.later hb1
      have cS := Lib.hid (store_any w.heap.size 37 cur p w1 hi1 hcl)
      have HI1 := Lib.hid hi1
      have HF1 := Lib.hid hf1
      have HZ1 := Lib.hid hz1'
      have i0 : (0 : Int) ≤ (m : Int) := by omega
      have i1 : (m : Int) < (n : Int) := by omega
      cases hbd : p.bad with
      | true =>
        have HE : Hid (mountL l f0 ps = (zero16, 0, 2)) := Lib.hid (by rw [HF.out, mount_bad hx hp hbd])
        obtain ⟨xs, xn, xd, xw⟩ := p
        simp only at q0 q1 q2 q3
        clear hc hp hx hh hi1 hf1 hz1' HF cI
        have HBD := Lib.hid hbd
        clear hbd hseq
        go_wp2_with fail
        refine cS.out.mono ?_; rintro e w2 ⟨w3, hb3, h⟩
        rcases h with ⟨hbad, rfl, rfl⟩ | ⟨hbad, rfl, rfl⟩
        · have hB3 := hB1.trans (hb3.mono hB1.size)
          have HZ3 := Lib.hid (HZ1.out.later hb3)
          clear hbad
          go_wp2_with (refine wpList_store_row rfl 37 (.tmp 6) (.tmp 34) rfl (w.heap.size + 1 + 1) (arr zero16) rfl rfl 37 (arr zero16) HZ3.out info16 rfl (by kernel_rfl) ?_)
          have hld := load16 (HZ3.out.row zero16) rfl
          have hB4 := below_setRow hB3 (show w.heap.size ≤ w.heap.size + 1 + 1 by omega) (arr zero16)
          refine bodyPost_ret (v := mval (zero16, 0, 2)) ?_ rfl ?_
          · simp [results, Try.results18, asAddr, Result.andThen, mval]
            erw [hld]
          · exact ⟨by rw [HE.out], hB4⟩
        · rw [HBD.out] at hbad
          cases hbad
      | false =>
        have HE : Hid (mountL l f0 ps = mountN ps g (setP cur p) (wrap64 (f + 1))) := Lib.hid (by rw [HF.out, mount_go hx hp hbd])
        obtain ⟨xs, xn, xd, xw⟩ := p
        simp only at q0 q1 q2 q3
        clear hc hp hx hh hi1 hf1 hz1' HF cI
        have HBD := Lib.hid hbd
        clear hbd hseq
        go_wp2_with fail
        refine cS.out.mono ?_; rintro e w2 ⟨w3, hb3, h⟩
        rcases h with ⟨hbad, rfl, rfl⟩ | ⟨hbad, rfl, rfl⟩
        · rw [HBD.out] at hbad
          cases hbad
        · have hB3 := (hB1.trans (hb3.mono hB1.size)).setCell (p := ⟨w.heap.size, xn.toNat, none⟩) (Nat.le_refl _) (.int .i64 xd)
          have HI3 := Lib.hid ((HI1.out.later hb3).set (k := xn.toNat) xd)
          have HF3 := Lib.hid ((HF1.out.later hb3).other (g' := w.heap.size) (k := xn.toNat) (by omega) (.int .i64 xd))
          have HZ3 := Lib.hid ((HZ1.out.later hb3).other (g' := w.heap.size) (k := xn.toNat) (by omega) (.int .i64 xd))
          clear hbad
          generalize w3.setCell ⟨w.heap.size, xn.toNat, none⟩ (.int .i64 xd) = w4 at hB3 HI3 HF3 HZ3 ⊢
          have u0 := HF3.out.froz (k := 0)
          have u1 := HF3.out.cell (k := 0) (x := f) rfl
          have HF4 := Lib.hid (HF3.out.set (k := 0) (wrap64 (f + 1)))
          have HI4 := Lib.hid (HI3.out.other (g' := w.heap.size + 1) (k := 0) (by omega) (.int .i64 (wrap64 (f + 1))))
          have HZ4 := Lib.hid (HZ3.out.other (g' := w.heap.size + 1) (k := 0) (by omega) (.int .i64 (wrap64 (f + 1))))
          have hB4 := hB3.setCell (p := ⟨w.heap.size + 1, 0, none⟩) (by simp) (.int .i64 (wrap64 (f + 1)))
          go_wp2
          go_roundg g
          case measure => omega
          case rel => exact ⟨g, j + 1, setP cur ⟨xs, xn, xd, xw⟩, wrap64 (f + 1), rfl, by omega, Lib.hid (by have := HLN.out; have := HLT.out; omega), HWN, HE, by rw [setP_len]; exact hcl, HI4.out, HF4.out, HZ4.out, hB4⟩
end Mount
end Go.Proofs.Ytljdfkejhgaciaa
