/-
  DirTells: dir.Good, Right, Find, Add and Remove answer as the reference does, for every folder and every entry. Conditions: none.
-/
import Derived.Test.YtelgalhkggnkbaaDrT
import Derived.Test.YtelgalhkggnkbaaFrI
import Derived.Test.YtelgalhkggnkbaaParse
import Derived.Test.YtelgalhkggnkbaaParse3
import Derived.Test.YtelgalhkggnkbaaReach
import Derived.Deep.RegionLaw
import Derived.BigRegion
namespace Go.Proofs.Ytelgalhkggnkbaa
open Go.ChangeShapes Go.WideShapes Go.ChangeAt Go.RowKit
set_option linter.unusedVariables false
namespace Dr

theorem rd_takeC {w : World} {B C n k : Nat} {A : Option Addr} {xs : List Value} (h : Rd w B C A n xs) (hk : k ≤ n) : Rd w B C A k (xs.take (k * C)) := by
  refine ⟨?_, fun h0 => ?_⟩
  · rw [List.length_take, h.1]
    exact Nat.min_eq_left (Nat.mul_le_mul_right C hk)
  · obtain ⟨b, off, e, hb, hc⟩ := h.2 (by omega)
    refine ⟨b, off, e, hb, fun j u hj => hc j u ?_⟩
    rw [List.getElem?_take] at hj
    split at hj
    · exact hj
    · cases hj
set_option maxRecDepth 100000 in
set_option maxHeartbeats 1600000 in
theorem dirTells_walk (A : Option Addr) (n c : Nat) (l : List En) (em : ByteArray) (ei : Int) (w : World) (hr : Rd w w.heap.size 2 A n (l.flatMap En.cells)) (hl : l.length = n) (hn : n ≤ 5864062014804) (hnc : n ≤ c) (hsz : ∀ e ∈ l, e.nm.size ≤ 9223372036854775807) (hem : em.size ≤ 9223372036854775807) :
    Calls Try.prog 3 #[.slice A n c, .agg #[.string em, .int .i64 ei]] w (Ret w (.bool true)) := by
  obtain ⟨ti, hti, t0, t1, t2⟩ := info_parts entry_info
  obtain ⟨rb, hrb⟩ : ∃ rb : Bool, rb = true ↔ RightL l := ⟨decide (RightL l), by simp⟩
  obtain ⟨gb, hgb⟩ : ∃ gb : Bool, gb = true ↔ GoodB em := ⟨decide (GoodB em), by simp⟩
  have HR := Lib.hid hr
  have HL := Lib.hid hl
  have HRB := Lib.hid hrb
  have HGB := Lib.hid hgb
  have HB0 := Lib.hid ((Below.refl w.heap.size w).alloc (Nat.le_refl _) (.cells #[.string em, .int .i64 ei] 24))
  have f0 := (Blk.new w 24 [.string em, .int .i64 ei]).cell (k := 0) rfl
  have f1 := (Blk.new w 24 [.string em, .int .i64 ei]).cell (k := 1) rfl
  have cF := Lib.hid (fun W (hW : Below w.heap.size w W) => find_any A n c l em W (hr.later hW) hl (by omega))
  have cA := Lib.hid (fun W (hW : Below w.heap.size w W) => add_any A n c l em ei W (hr.later hW) hl hn)
  have cM := Lib.hid (fun W (hW : Below w.heap.size w W) => remove_any A n c l em W (hr.later hW) hl hn)
  have cGd := Lib.hid (fun W => dgood_any em gb W hgb)
  have cGo := Lib.hid (fun W => ogood_any em gb W hem hgb)
  have cRd := Lib.hid (fun W (hW : Below w.heap.size w W) => dright_any A n c l rb W (hr.later hW) hl (by omega) hrb)
  have cRo := Lib.hid (fun W (hW : Below w.heap.size w W) => oright_any A n c l rb W (hr.later hW) hl (by omega) hsz hrb)
  have cAt := Lib.hid (fun W (hW : Below w.heap.size w W) => oat_any A n c l em W (hr.later hW) hl (by omega))
  clear hr hl hrb hgb
  go_enter Try.func3, Try.ntmps3
  go_upto_region 1 with (fail)
  generalize w.alloc (.cells #[.string em, .int .i64 ei] 24) = w1 at f0 f1 HB0 ⊢
  generalize w.heap.size = gx at f0 f1 ⊢
  go_wp2_with fail
  refine (cF.out w1 HB0.out).mono ?_; rintro en w2 ⟨k1, er1, rfl, hf, hb2⟩
  have HF := Lib.hid hf
  have B2 := Lib.hid (HB0.out.trans (hb2.mono HB0.out.size))
  have g0 := (hb2.cell (World.block_lt_of_cell? w1 _ f0)).trans f0
  have g1 := (hb2.cell (World.block_lt_of_cell? w1 _ f1)).trans f1
  clear hf hb2 cF f0 f1 HB0
  go_wp2_with fail
  refine (cA.out w2 B2.out).mono ?_; rintro en w3 ⟨A1, c1, o1, er2, rfl, hadd, hr1, hb3⟩
  have HADD := Lib.hid hadd
  have B3 := Lib.hid (B2.out.trans (hb3.mono B2.out.size))
  have f0 := (hb3.cell (World.block_lt_of_cell? w2 _ g0)).trans g0
  have f1 := (hb3.cell (World.block_lt_of_cell? w2 _ g1)).trans g1
  obtain ⟨n1, hn1⟩ : ∃ n1, n1 = o1.length := ⟨_, rfl⟩
  rw [← hn1] at hr1 ⊢
  have HR1 := Lib.hid hr1
  have HN1 := Lib.hid hn1
  clear hadd hb3 cA hr1 hn1 g0 g1
  go_wp2_with fail
  refine (cM.out w3 B3.out).mono ?_; rintro en w4 ⟨A2, c2, o2, er3, rfl, hrem, hr2, hb4⟩
  have HREM := Lib.hid hrem
  have B4 := Lib.hid (B3.out.trans (hb4.mono B3.out.size))
  have g0 := (hb4.cell (World.block_lt_of_cell? w3 _ f0)).trans f0
  have g1 := (hb4.cell (World.block_lt_of_cell? w3 _ f1)).trans f1
  have HR1' := Lib.hid (HR1.out.later hb4)
  obtain ⟨n2, hn2⟩ : ∃ n2, n2 = o2.length := ⟨_, rfl⟩
  rw [← hn2] at hr2 ⊢
  have HR2 := Lib.hid hr2
  have HN2 := Lib.hid hn2
  clear hrem hb4 cM hr2 hn2 f0 f1 HR1
  go_upto_region 4 with (fail)
  have p0 := fun z : LaterOf w4 => z.cell g0
  have dGd := Lib.hid (fun z : LaterOf w4 => cGd.out z.w)
  have dGo := Lib.hid (fun z : LaterOf w4 => cGo.out z.w)
  have dRd := Lib.hid (fun z : LaterOf w4 => cRd.out z.w (B4.out.trans (z.h.mono B4.out.size)))
  have dRo := Lib.hid (fun z : LaterOf w4 => cRo.out z.w (B4.out.trans (z.h.mono B4.out.size)))
  have zg : (gb != gb) = false := by simp
  have zr : (rb != rb) = false := by simp
  refine wp_region_later (by kernel_rfl) (by kernel_rfl) ?_
  repeat (go_big_quiet_step (first | with_reducible exact Calls.later (dGd.out _) | with_reducible exact Calls.later (dGo.out _) | with_reducible exact Calls.later (dRd.out _) | with_reducible exact Calls.later (dRo.out _)))
  refine wpQuiet_nil ?_; intro xw hw'; obtain ⟨xq, hw''⟩ := hw'; obtain ⟨xw0, xh⟩ := xq; change xw = xw0 at hw''; subst hw''
  have B5 := Lib.hid (B4.out.trans (xh.mono B4.out.size))
  have f0 := (xh.cell (World.block_lt_of_cell? w4 _ g0)).trans g0
  have f1 := (xh.cell (World.block_lt_of_cell? w4 _ g1)).trans g1
  have HR1 := Lib.hid (HR1'.out.later xh)
  have HR2' := Lib.hid (HR2.out.later xh)
  clear p0 dGd dGo dRd dRo zg zr g0 g1 xh HR1' HR2
  generalize xw = w5 at B5 f0 f1 HR1 HR2' ⊢
  go_wp2_with fail
  refine (cRo.out w5 B5.out).mono ?_; rintro en w6 ⟨rfl, hb6⟩
  have B6 := Lib.hid (B5.out.trans (hb6.mono B5.out.size))
  have g0 := (hb6.cell (World.block_lt_of_cell? w5 _ f0)).trans f0
  have g1 := (hb6.cell (World.block_lt_of_cell? w5 _ f1)).trans f1
  have HR1' := Lib.hid (HR1.out.later hb6)
  have HR2 := Lib.hid (HR2'.out.later hb6)
  clear hb6 cRo f0 f1 HR1 HR2'
  cases rb with
  | false =>
    have hri : ¬ RightL l := fun h => absurd (HRB.out.2 h) (by decide)
    obtain ⟨rfl, rfl⟩ := HF.out.inv1 hri
    obtain ⟨ho1, rfl⟩ := HADD.out.inv1 hri
    obtain ⟨ho2, rfl⟩ := HREM.out.inv1 hri
    obtain rfl : n1 = 0 := by rw [HN1.out, ho1]; rfl
    obtain rfl : n2 = 0 := by rw [HN2.out, ho2]; rfl
    clear ho1 ho2 hri
    go_wp2
    go_ret
    exact Ret.mk rfl B6.out
  | true =>
    have hri : RightL l := by have := HRB.out; simpa using this
    have HRI := Lib.hid hri
    clear hri
    go_wp2_with fail
    refine (cAt.out w6 B6.out).mono ?_; rintro en w7 ⟨kk, rfl, hat, hb7⟩
    have B7 := Lib.hid (B6.out.trans (hb7.mono B6.out.size))
    have f0 := (hb7.cell (World.block_lt_of_cell? w6 _ g0)).trans g0
    have f1 := (hb7.cell (World.block_lt_of_cell? w6 _ g1)).trans g1
    have HR1 := Lib.hid (HR1'.out.later hb7)
    have HR2' := Lib.hid (HR2.out.later hb7)
    have HAT := Lib.hid hat
    clear hb7 cAt g0 g1 HR1' HR2 hat
    by_cases hex : ∃ (i : Nat) (x : En), l[i]? = some x ∧ x.nm = em
    · obtain ⟨p, x, hx, hxn⟩ := hex
      obtain ⟨rfl, rfl⟩ := HF.out.inv2 HRI.out hx hxn
      obtain ⟨ho1, rfl⟩ := HADD.out.inv2 HRI.out (List.mem_of_getElem? hx) hxn
      obtain ⟨ho2, rfl⟩ := HREM.out.inv2 HRI.out hx hxn
      obtain rfl := HAT.out.inv2 HRI.out hx hxn
      obtain rfl : n1 = 0 := by rw [HN1.out, ho1]; rfl
      have hpn : p < n := by rw [← HL.out]; exact (List.getElem?_eq_some_iff.1 hx).1
      obtain ⟨ab, off, rfl, hb, hc⟩ := HR.out.at_ En.len (by omega)
      obtain ⟨q0, q1⟩ := En.facts hb B7.out hc hx
      have hlo2 : n2 = n - 1 := by
        rw [HN2.out, ho2, List.length_append, List.length_take, List.length_drop, HL.out]
        omega
      have HO2 := Lib.hid ho2
      obtain ⟨xm, xi⟩ := x
      simp only at q0 q1
      have i0 : (0 : Int) ≤ (p : Int) := by omega
      have i1 : (p : Int) < (n : Int) := by omega
      have zk : (xi == xi) = true := by simp
      have hs1 : ∀ W, (Instr.slice 22 (.slice (some ⟨ab, off, none⟩) n c) none (some (.int .i64 (p : Int))) none).run Try.prog W = .ok (.slice (some ⟨ab, off, none⟩) p c) W := fun W => upto_run Try.underlying22 (size_of_info hti t1) _ n c p (by omega) W
      obtain ⟨p1, hp1⟩ : ∃ p1, p1 = p + 1 := ⟨_, rfl⟩
      have kp : (p : Int) + 1 = (p1 : Int) := by omega
      have hs2 : ∀ W, (Instr.slice 22 (.slice (some ⟨ab, off, none⟩) n c) (some (.int .i64 (p1 : Int))) none none).run Try.prog W = .ok (.slice (fromAddr (some ⟨ab, off, none⟩) c p1 2) (n - p1) (c - p1)) W := fun W => from_run Try.underlying22 (size_of_info hti t1) _ n c p1 (by omega) W
      have hp14 : p1 ≤ 5864062014805 := by omega
      have HTK : Hid (Rd w w.heap.size 2 (some ⟨ab, off, none⟩) p ((l.take p).flatMap En.cells)) := Lib.hid (by
        have h := rd_takeC HR.out (show p ≤ n by omega)
        rwa [flat_take En.len] at h)
      have HDR : Hid (Rd w w.heap.size 2 (fromAddr (some ⟨ab, off, none⟩) c p1 2) (n - p1) ((l.drop p1).flatMap En.cells)) := Lib.hid (by
        have h := rd_fromAddr HR.out (show p1 ≤ n by omega) hnc
        rwa [flat_drop En.len] at h)
      have cK := Lib.hid (fun W (hW : Below w.heap.size w W) => eclone_any (some ⟨ab, off, none⟩) p c ((l.take p).flatMap En.cells) W (HTK.out.later hW) (En.one _) (by omega) (by omega))
      have hlen2 : (l.take p).length + (l.drop p1).length = n2 := by
        rw [List.length_take, List.length_drop, HL.out]
        omega
      have HP1 := Lib.hid hp1
      have hpn2 : p + (n - p1) = n2 := by omega
      have cE := Lib.hid (fun (W : World) (A' : Option Addr) (c' : Nat) (hW : Below w7.heap.size w7 W) (hR : Rd W W.heap.size 2 A' n2 ((l.take p).flatMap En.cells ++ (l.drop p1).flatMap En.cells)) => equal_entries A2 A' n2 c2 c' o2 W (HR2'.out.later hW) (by rw [HO2.out, ← HP1.out, List.flatMap_append]; exact hR) HN2.out.symm (by omega))
      clear hx hxn ho1 ho2 hc hlo2 hp1 f0 f1
      have hwr : IntKind.i64.wrap (p1 : Int) = (p1 : Int) := by
        simp [IntKind.wrap, IntKind.bits, IntKind.signed]
        omega
      go_upto_region 10 with (fail)
      refine region_abs ?_
      intro a0 ha0
      have z0 : a0.tmps.size = 152 := by rw [ha0]; rfl
      have zd : a0.defers = [] := by rw [ha0]
      have o0 : a0.tmps[0]? = some (.slice (some ⟨ab, off, none⟩) n c) := by rw [ha0]; rfl
      have o5 : a0.tmps[5]? = some (.int .i64 xi) := by rw [ha0]; rfl
      have o6 : a0.tmps[6]? = some (.int .i64 0) := by rw [ha0]; rfl
      have o7 : a0.tmps[7]? = some (.slice A1 0 c1) := by rw [ha0]; rfl
      have o8 : a0.tmps[8]? = some (.int .i64 6) := by rw [ha0]; rfl
      have o9 : a0.tmps[9]? = some (.slice A2 n2 c2) := by rw [ha0]; rfl
      have o10 : a0.tmps[10]? = some (.int .i64 0) := by rw [ha0]; rfl
      have o11 : a0.tmps[11]? = some (.int .i64 (p : Int)) := by rw [ha0]; rfl
      clear ha0
      obtain ⟨Vp, hVp⟩ : ∃ Vp : Nat → Value → Prop, Vp = fun i v => (match i with | 0 => v = .int .i64 0 | 1 => v = .bool true | 2 => v = .bool true | 3 => v = .int .i64 xi | 4 => v = .slice (some ⟨ab, off, none⟩) n c | 5 => v = .int .i64 (p : Int) | 6 => v = .pointer (some ⟨ab, off + p * 2, none⟩) | 7 => v = .pointer (some ⟨ab, off + p * 2 + 1, none⟩) | 8 => v = .int .i64 xi | 9 => v = .bool true | 10 => v = .bool true | 11 => v = .bool true | 12 => v = .int .i64 6 | 13 => v = .bool true | 14 => v = .bool true | 15 => v = .bool true | 16 => v = .slice A1 0 c1 | 17 => v = .int .i64 0 | 18 => v = .bool true | 19 => v = .bool true | 20 => v = .bool true | 21 => v = .int .i64 0 | 22 => v = .bool true | 23 => v = .bool true | 24 => v = .bool true | 25 => v = .slice A2 n2 c2 | 26 => v = .slice (some ⟨ab, off, none⟩) n c | 27 => v = .int .i64 (p : Int) | 28 => v = .slice (some ⟨ab, off, none⟩) p c | 30 => v = .slice (some ⟨ab, off, none⟩) n c | 31 => v = .int .i64 (p : Int) | 32 => v = .int .i64 (p1 : Int) | 33 => v = .slice (fromAddr (some ⟨ab, off, none⟩) c p1 2) (n - p1) (c - p1) | 36 => v = .bool true | 37 => v = .bool true | _ => True) := ⟨_, rfl⟩
      obtain ⟨V, hV⟩ : ∃ V : Option Addr → Nat → Option Addr → Nat → Nat → Value → Prop, V = fun A8 c8 A9 c9 i v => (if i = 29 then v = .slice A8 p c8 else if i = 34 then v = .slice A9 (p + (n - p1)) c9 else if i = 35 then v = .bool true else Vp i v) := ⟨_, rfl⟩
      have vp0 : ∀ A8 c8 A9 c9 v, V A8 c8 A9 c9 0 v ↔ v = .int .i64 0 := fun A8 c8 A9 c9 v => by rw [hV, hVp]; exact Iff.rfl
      have vp1 : ∀ A8 c8 A9 c9 v, V A8 c8 A9 c9 1 v ↔ v = .bool true := fun A8 c8 A9 c9 v => by rw [hV, hVp]; exact Iff.rfl
      have vp2 : ∀ A8 c8 A9 c9 v, V A8 c8 A9 c9 2 v ↔ v = .bool true := fun A8 c8 A9 c9 v => by rw [hV, hVp]; exact Iff.rfl
      have vp3 : ∀ A8 c8 A9 c9 v, V A8 c8 A9 c9 3 v ↔ v = .int .i64 xi := fun A8 c8 A9 c9 v => by rw [hV, hVp]; exact Iff.rfl
      have vp4 : ∀ A8 c8 A9 c9 v, V A8 c8 A9 c9 4 v ↔ v = .slice (some ⟨ab, off, none⟩) n c := fun A8 c8 A9 c9 v => by rw [hV, hVp]; exact Iff.rfl
      have vp5 : ∀ A8 c8 A9 c9 v, V A8 c8 A9 c9 5 v ↔ v = .int .i64 (p : Int) := fun A8 c8 A9 c9 v => by rw [hV, hVp]; exact Iff.rfl
      have vp6 : ∀ A8 c8 A9 c9 v, V A8 c8 A9 c9 6 v ↔ v = .pointer (some ⟨ab, off + p * 2, none⟩) := fun A8 c8 A9 c9 v => by rw [hV, hVp]; exact Iff.rfl
      have vp7 : ∀ A8 c8 A9 c9 v, V A8 c8 A9 c9 7 v ↔ v = .pointer (some ⟨ab, off + p * 2 + 1, none⟩) := fun A8 c8 A9 c9 v => by rw [hV, hVp]; exact Iff.rfl
      have vp8 : ∀ A8 c8 A9 c9 v, V A8 c8 A9 c9 8 v ↔ v = .int .i64 xi := fun A8 c8 A9 c9 v => by rw [hV, hVp]; exact Iff.rfl
      have vp9 : ∀ A8 c8 A9 c9 v, V A8 c8 A9 c9 9 v ↔ v = .bool true := fun A8 c8 A9 c9 v => by rw [hV, hVp]; exact Iff.rfl
      have vp10 : ∀ A8 c8 A9 c9 v, V A8 c8 A9 c9 10 v ↔ v = .bool true := fun A8 c8 A9 c9 v => by rw [hV, hVp]; exact Iff.rfl
      have vp11 : ∀ A8 c8 A9 c9 v, V A8 c8 A9 c9 11 v ↔ v = .bool true := fun A8 c8 A9 c9 v => by rw [hV, hVp]; exact Iff.rfl
      have vp12 : ∀ A8 c8 A9 c9 v, V A8 c8 A9 c9 12 v ↔ v = .int .i64 6 := fun A8 c8 A9 c9 v => by rw [hV, hVp]; exact Iff.rfl
      have vp13 : ∀ A8 c8 A9 c9 v, V A8 c8 A9 c9 13 v ↔ v = .bool true := fun A8 c8 A9 c9 v => by rw [hV, hVp]; exact Iff.rfl
      have vp14 : ∀ A8 c8 A9 c9 v, V A8 c8 A9 c9 14 v ↔ v = .bool true := fun A8 c8 A9 c9 v => by rw [hV, hVp]; exact Iff.rfl
      have vp15 : ∀ A8 c8 A9 c9 v, V A8 c8 A9 c9 15 v ↔ v = .bool true := fun A8 c8 A9 c9 v => by rw [hV, hVp]; exact Iff.rfl
      have vp16 : ∀ A8 c8 A9 c9 v, V A8 c8 A9 c9 16 v ↔ v = .slice A1 0 c1 := fun A8 c8 A9 c9 v => by rw [hV, hVp]; exact Iff.rfl
      have vp17 : ∀ A8 c8 A9 c9 v, V A8 c8 A9 c9 17 v ↔ v = .int .i64 0 := fun A8 c8 A9 c9 v => by rw [hV, hVp]; exact Iff.rfl
      have vp18 : ∀ A8 c8 A9 c9 v, V A8 c8 A9 c9 18 v ↔ v = .bool true := fun A8 c8 A9 c9 v => by rw [hV, hVp]; exact Iff.rfl
      have vp19 : ∀ A8 c8 A9 c9 v, V A8 c8 A9 c9 19 v ↔ v = .bool true := fun A8 c8 A9 c9 v => by rw [hV, hVp]; exact Iff.rfl
      have vp20 : ∀ A8 c8 A9 c9 v, V A8 c8 A9 c9 20 v ↔ v = .bool true := fun A8 c8 A9 c9 v => by rw [hV, hVp]; exact Iff.rfl
      have vp21 : ∀ A8 c8 A9 c9 v, V A8 c8 A9 c9 21 v ↔ v = .int .i64 0 := fun A8 c8 A9 c9 v => by rw [hV, hVp]; exact Iff.rfl
      have vp22 : ∀ A8 c8 A9 c9 v, V A8 c8 A9 c9 22 v ↔ v = .bool true := fun A8 c8 A9 c9 v => by rw [hV, hVp]; exact Iff.rfl
      have vp23 : ∀ A8 c8 A9 c9 v, V A8 c8 A9 c9 23 v ↔ v = .bool true := fun A8 c8 A9 c9 v => by rw [hV, hVp]; exact Iff.rfl
      have vp24 : ∀ A8 c8 A9 c9 v, V A8 c8 A9 c9 24 v ↔ v = .bool true := fun A8 c8 A9 c9 v => by rw [hV, hVp]; exact Iff.rfl
      have vp25 : ∀ A8 c8 A9 c9 v, V A8 c8 A9 c9 25 v ↔ v = .slice A2 n2 c2 := fun A8 c8 A9 c9 v => by rw [hV, hVp]; exact Iff.rfl
      have vp26 : ∀ A8 c8 A9 c9 v, V A8 c8 A9 c9 26 v ↔ v = .slice (some ⟨ab, off, none⟩) n c := fun A8 c8 A9 c9 v => by rw [hV, hVp]; exact Iff.rfl
      have vp27 : ∀ A8 c8 A9 c9 v, V A8 c8 A9 c9 27 v ↔ v = .int .i64 (p : Int) := fun A8 c8 A9 c9 v => by rw [hV, hVp]; exact Iff.rfl
      have vp28 : ∀ A8 c8 A9 c9 v, V A8 c8 A9 c9 28 v ↔ v = .slice (some ⟨ab, off, none⟩) p c := fun A8 c8 A9 c9 v => by rw [hV, hVp]; exact Iff.rfl
      have vp30 : ∀ A8 c8 A9 c9 v, V A8 c8 A9 c9 30 v ↔ v = .slice (some ⟨ab, off, none⟩) n c := fun A8 c8 A9 c9 v => by rw [hV, hVp]; exact Iff.rfl
      have vp31 : ∀ A8 c8 A9 c9 v, V A8 c8 A9 c9 31 v ↔ v = .int .i64 (p : Int) := fun A8 c8 A9 c9 v => by rw [hV, hVp]; exact Iff.rfl
      have vp32 : ∀ A8 c8 A9 c9 v, V A8 c8 A9 c9 32 v ↔ v = .int .i64 (p1 : Int) := fun A8 c8 A9 c9 v => by rw [hV, hVp]; exact Iff.rfl
      have vp33 : ∀ A8 c8 A9 c9 v, V A8 c8 A9 c9 33 v ↔ v = .slice (fromAddr (some ⟨ab, off, none⟩) c p1 2) (n - p1) (c - p1) := fun A8 c8 A9 c9 v => by rw [hV, hVp]; exact Iff.rfl
      have vp36 : ∀ A8 c8 A9 c9 v, V A8 c8 A9 c9 36 v ↔ v = .bool true := fun A8 c8 A9 c9 v => by rw [hV, hVp]; exact Iff.rfl
      have vp37 : ∀ A8 c8 A9 c9 v, V A8 c8 A9 c9 37 v ↔ v = .bool true := fun A8 c8 A9 c9 v => by rw [hV, hVp]; exact Iff.rfl
      have vp29 : ∀ A8 c8 A9 c9 v, V A8 c8 A9 c9 29 v ↔ v = .slice A8 p c8 := fun A8 c8 A9 c9 v => by rw [hV]; exact Iff.rfl
      have vp34 : ∀ A8 c8 A9 c9 v, V A8 c8 A9 c9 34 v ↔ v = .slice A9 (p + (n - p1)) c9 := fun A8 c8 A9 c9 v => by rw [hV]; exact Iff.rfl
      have vp35 : ∀ A8 c8 A9 c9 v, V A8 c8 A9 c9 35 v ↔ v = .bool true := fun A8 c8 A9 c9 v => by rw [hV]; exact Iff.rfl
      have hre : ∀ (L : Nat → Bool) A8 c8 A9 c9 A8' c8' A9' c9', (A8 = A8' ∧ c8 = c8' ∨ L 29 = false) → (A9 = A9' ∧ c9 = c9' ∨ L 34 = false) → ∀ i v, L i = true → V A8 c8 A9 c9 i v → V A8' c8' A9' c9' i v := by
        intro L A8 c8 A9 c9 A8' c8' A9' c9' h1 h2 i v hL hv
        rw [hV] at hv ⊢
        by_cases e1 : i = 29
        · subst e1
          rcases h1 with ⟨rfl, rfl⟩ | h1
          · exact hv
          · rw [h1] at hL; cases hL
        · by_cases e2 : i = 34
          · subst e2
            rcases h2 with ⟨rfl, rfl⟩ | h2
            · exact hv
            · rw [h2] at hL; cases hL
          · simp only [e1, e2, if_false] at hv ⊢
            exact hv
      refine wp_region_inv1 (fun ops L ac w' => ∃ A8 c8 A9 c9, FrI a0 ops (V A8 c8 A9 c9) L ac ∧ (if L 35 = true then (Below w7.heap.size w7 w') else (if L 34 = true then (Sep w7 w' [.row 24 2 (.slice A9 (p + (n - p1)) c9) (p + (n - p1)) ((l.take p).flatMap En.cells ++ (l.drop p1).flatMap En.cells)]) else (if L 29 = true then (Sep w7 w' [.row 24 2 (.slice A8 p c8) p ((l.take p).flatMap En.cells)]) else Below w7.heap.size w7 w')))) rfl (by kernel_rfl) ?_ ?_ ?_
      · exact ⟨none, 0, none, 0, FrI.start _ _ _, (Below.refl w7.heap.size w7).drew⟩
      · rintro L ac w' i o ⟨A8, c8, A9, c9, hF, hS⟩ ho hi he
        have y0 : ac.tmps[0]? = some (.slice (some ⟨ab, off, none⟩) n c) := (hF.out 0 (by kernel_rfl)).trans o0
        have v0 := getD_of y0
        have y5 : ac.tmps[5]? = some (.int .i64 xi) := (hF.out 5 (by kernel_rfl)).trans o5
        have v5 := getD_of y5
        have y6 : ac.tmps[6]? = some (.int .i64 0) := (hF.out 6 (by kernel_rfl)).trans o6
        have v6 := getD_of y6
        have y7 : ac.tmps[7]? = some (.slice A1 0 c1) := (hF.out 7 (by kernel_rfl)).trans o7
        have v7 := getD_of y7
        have y8 : ac.tmps[8]? = some (.int .i64 6) := (hF.out 8 (by kernel_rfl)).trans o8
        have v8 := getD_of y8
        have y9 : ac.tmps[9]? = some (.slice A2 n2 c2) := (hF.out 9 (by kernel_rfl)).trans o9
        have v9 := getD_of y9
        have y10 : ac.tmps[10]? = some (.int .i64 0) := (hF.out 10 (by kernel_rfl)).trans o10
        have v10 := getD_of y10
        have y11 : ac.tmps[11]? = some (.int .i64 (p : Int)) := (hF.out 11 (by kernel_rfl)).trans o11
        have v11 := getD_of y11
        have hp := fun {i : Nat} {o : Oper} {d : Nat} {v : Value} => @FrI.put a0 ac _ (V A8 c8 A9 c9) L hF i o d v (by kernel_rfl)
        rcases i with _|_|_|_|_|_|_|_|_|_|_|_|_|_|_|_|_|_|_|_|_|_|_|_|_|_|_|_|_|_|_|_|_|_|_|_|_|_|i
        all_goals cases ho
        all_goals have he0 := he
        all_goals simp [Region.binds] at he
        · refine wpOp_step rfl (fun K hK => ?_)
          go_simp
          exact hK _ _ ⟨A8, c8, A9, c9, hp rfl rfl (by rw [z0]; decide) ((vp0 A8 c8 A9 c9 _).2 rfl) he0, hS⟩
        · obtain ⟨_, hv, y77⟩ := hF.at_ 0 _ 77 rfl rfl (by simp [he])
          obtain rfl := (vp0 A8 c8 A9 c9 _).1 hv
          have v77 := getD_of y77
          refine wpOp_step rfl (fun K hK => ?_)
          go_simp
          exact hK _ _ ⟨A8, c8, A9, c9, hp rfl rfl (by rw [z0]; decide) ((vp1 A8 c8 A9 c9 _).2 rfl) he0, hS⟩
        · obtain ⟨_, hv, y78⟩ := hF.at_ 1 _ 78 rfl rfl (by simp [he])
          obtain rfl := (vp1 A8 c8 A9 c9 _).1 hv
          have v78 := getD_of y78
          refine wpOp_step rfl (fun K hK => ?_)
          go_simp
          exact hK _ _ ⟨A8, c8, A9, c9, hp rfl rfl (by rw [z0]; decide) ((vp2 A8 c8 A9 c9 _).2 rfl) he0, hS⟩
        · obtain ⟨_, hv, y79⟩ := hF.at_ 2 _ 79 rfl rfl (by simp [he])
          obtain rfl := (vp2 A8 c8 A9 c9 _).1 hv
          have v79 := getD_of y79
          refine wpOp_step rfl (fun K hK => ?_)
          go_simp
          exact hK _ _ ⟨A8, c8, A9, c9, hp rfl rfl (by rw [z0]; decide) ((vp3 A8 c8 A9 c9 _).2 rfl) he0, hS⟩
        · obtain ⟨_, hv, y79⟩ := hF.at_ 2 _ 79 rfl rfl (by simp [he])
          obtain rfl := (vp2 A8 c8 A9 c9 _).1 hv
          have v79 := getD_of y79
          refine wpOp_step rfl (fun K hK => ?_)
          go_simp
          exact hK _ _ ⟨A8, c8, A9, c9, hp rfl rfl (by rw [z0]; decide) ((vp4 A8 c8 A9 c9 _).2 rfl) he0, hS⟩
        · obtain ⟨_, hv, y79⟩ := hF.at_ 2 _ 79 rfl rfl (by simp [he])
          obtain rfl := (vp2 A8 c8 A9 c9 _).1 hv
          have v79 := getD_of y79
          refine wpOp_step rfl (fun K hK => ?_)
          go_simp
          exact hK _ _ ⟨A8, c8, A9, c9, hp rfl rfl (by rw [z0]; decide) ((vp5 A8 c8 A9 c9 _).2 rfl) he0, hS⟩
        · obtain ⟨_, hv, y81⟩ := hF.at_ 4 _ 81 rfl rfl (by simp [he])
          obtain rfl := (vp4 A8 c8 A9 c9 _).1 hv
          have v81 := getD_of y81
          obtain ⟨_, hv, y82⟩ := hF.at_ 5 _ 82 rfl rfl (by simp [he])
          obtain rfl := (vp5 A8 c8 A9 c9 _).1 hv
          have v82 := getD_of y82
          obtain ⟨_, hv, y79⟩ := hF.at_ 2 _ 79 rfl rfl (by simp [he])
          obtain rfl := (vp2 A8 c8 A9 c9 _).1 hv
          have v79 := getD_of y79
          refine wpOp_step rfl (fun K hK => ?_)
          go_simp
          exact hK _ _ ⟨A8, c8, A9, c9, hp rfl rfl (by rw [z0]; decide) ((vp6 A8 c8 A9 c9 _).2 rfl) he0, hS⟩
        · obtain ⟨_, hv, y83⟩ := hF.at_ 6 _ 83 rfl rfl (by simp [he])
          obtain rfl := (vp6 A8 c8 A9 c9 _).1 hv
          have v83 := getD_of y83
          obtain ⟨_, hv, y79⟩ := hF.at_ 2 _ 79 rfl rfl (by simp [he])
          obtain rfl := (vp2 A8 c8 A9 c9 _).1 hv
          have v79 := getD_of y79
          refine wpOp_step rfl (fun K hK => ?_)
          go_simp
          exact hK _ _ ⟨A8, c8, A9, c9, hp rfl rfl (by rw [z0]; decide) ((vp7 A8 c8 A9 c9 _).2 rfl) he0, hS⟩
        · obtain ⟨_, hv, y84⟩ := hF.at_ 7 _ 84 rfl rfl (by simp [he])
          obtain rfl := (vp7 A8 c8 A9 c9 _).1 hv
          have v84 := getD_of y84
          obtain ⟨_, hv, y79⟩ := hF.at_ 2 _ 79 rfl rfl (by simp [he])
          obtain rfl := (vp2 A8 c8 A9 c9 _).1 hv
          have v79 := getD_of y79
          have h35 : L 35 = false := by
            cases hh : L 35 with
            | false => rfl
            | true =>
              have z24 : L 24 = true := by have h := fun e => hF.dc 35 _ e rfl hh; simp [Region.binds] at h; simp [h]
              have z20 : L 20 = true := by have h := fun e => hF.dc 24 _ e rfl z24; simp [Region.binds] at h; simp [h]
              have z15 : L 15 = true := by have h := fun e => hF.dc 20 _ e rfl z20; simp [Region.binds] at h; simp [h]
              have z11 : L 11 = true := by have h := fun e => hF.dc 15 _ e rfl z15; simp [Region.binds] at h; simp [h]
              have z10 : L 10 = true := by have h := fun e => hF.dc 11 _ e rfl z11; simp [Region.binds] at h; simp [h]
              have z9 : L 9 = true := by have h := fun e => hF.dc 10 _ e rfl z10; simp [Region.binds] at h; simp [h]
              have z8 : L 8 = true := by have h := fun e => hF.dc 9 _ e rfl z9; simp [Region.binds] at h; simp [h]
              rw [hi] at z8
              cases z8
          have h34 : L 34 = false := by
            cases hh : L 34 with
            | false => rfl
            | true =>
              have z24 : L 24 = true := by have h := fun e => hF.dc 34 _ e rfl hh; simp [Region.binds] at h; simp [h]
              have z20 : L 20 = true := by have h := fun e => hF.dc 24 _ e rfl z24; simp [Region.binds] at h; simp [h]
              have z15 : L 15 = true := by have h := fun e => hF.dc 20 _ e rfl z20; simp [Region.binds] at h; simp [h]
              have z11 : L 11 = true := by have h := fun e => hF.dc 15 _ e rfl z15; simp [Region.binds] at h; simp [h]
              have z10 : L 10 = true := by have h := fun e => hF.dc 11 _ e rfl z11; simp [Region.binds] at h; simp [h]
              have z9 : L 9 = true := by have h := fun e => hF.dc 10 _ e rfl z10; simp [Region.binds] at h; simp [h]
              have z8 : L 8 = true := by have h := fun e => hF.dc 9 _ e rfl z9; simp [Region.binds] at h; simp [h]
              rw [hi] at z8
              cases z8
          have h29 : L 29 = false := by
            cases hh : L 29 with
            | false => rfl
            | true =>
              have z24 : L 24 = true := by have h := fun e => hF.dc 29 _ e rfl hh; simp [Region.binds] at h; simp [h]
              have z20 : L 20 = true := by have h := fun e => hF.dc 24 _ e rfl z24; simp [Region.binds] at h; simp [h]
              have z15 : L 15 = true := by have h := fun e => hF.dc 20 _ e rfl z20; simp [Region.binds] at h; simp [h]
              have z11 : L 11 = true := by have h := fun e => hF.dc 15 _ e rfl z15; simp [Region.binds] at h; simp [h]
              have z10 : L 10 = true := by have h := fun e => hF.dc 11 _ e rfl z11; simp [Region.binds] at h; simp [h]
              have z9 : L 9 = true := by have h := fun e => hF.dc 10 _ e rfl z10; simp [Region.binds] at h; simp [h]
              have z8 : L 8 = true := by have h := fun e => hF.dc 9 _ e rfl z9; simp [Region.binds] at h; simp [h]
              rw [hi] at z8
              cases z8
          have f0 : w'.cell? ⟨ab, off + p * 2 + 1, none⟩ = some (.int .i64 xi) := by
            rw [if_neg (by simp [h35]), if_neg (by simp [h34]), if_neg (by simp [h29])] at hS
            exact (hS.cell (World.block_lt_of_cell? w7 _ q1)).trans q1
          refine wpOp_step rfl (fun K hK => ?_)
          go_simp
          exact hK _ _ ⟨A8, c8, A9, c9, hp rfl rfl (by rw [z0]; decide) ((vp8 A8 c8 A9 c9 _).2 rfl) he0, hS⟩
        · obtain ⟨_, hv, y80⟩ := hF.at_ 3 _ 80 rfl rfl (by simp [he])
          obtain rfl := (vp3 A8 c8 A9 c9 _).1 hv
          have v80 := getD_of y80
          obtain ⟨_, hv, y85⟩ := hF.at_ 8 _ 85 rfl rfl (by simp [he])
          obtain rfl := (vp8 A8 c8 A9 c9 _).1 hv
          have v85 := getD_of y85
          obtain ⟨_, hv, y79⟩ := hF.at_ 2 _ 79 rfl rfl (by simp [he])
          obtain rfl := (vp2 A8 c8 A9 c9 _).1 hv
          have v79 := getD_of y79
          refine wpOp_step rfl (fun K hK => ?_)
          go_simp
          exact hK _ _ ⟨A8, c8, A9, c9, hp rfl rfl (by rw [z0]; decide) ((vp9 A8 c8 A9 c9 _).2 rfl) he0, hS⟩
        · obtain ⟨_, hv, y79⟩ := hF.at_ 2 _ 79 rfl rfl (by simp [he])
          obtain rfl := (vp2 A8 c8 A9 c9 _).1 hv
          have v79 := getD_of y79
          obtain ⟨_, hv, y86⟩ := hF.at_ 9 _ 86 rfl rfl (by simp [he])
          obtain rfl := (vp9 A8 c8 A9 c9 _).1 hv
          have v86 := getD_of y86
          refine wpOp_step rfl (fun K hK => ?_)
          go_simp
          exact hK _ _ ⟨A8, c8, A9, c9, hp rfl rfl (by rw [z0]; decide) ((vp10 A8 c8 A9 c9 _).2 rfl) he0, hS⟩
        · obtain ⟨_, hv, y87⟩ := hF.at_ 10 _ 87 rfl rfl (by simp [he])
          obtain rfl := (vp10 A8 c8 A9 c9 _).1 hv
          have v87 := getD_of y87
          refine wpOp_step rfl (fun K hK => ?_)
          go_simp
          exact hK _ _ ⟨A8, c8, A9, c9, hp rfl rfl (by rw [z0]; decide) ((vp11 A8 c8 A9 c9 _).2 rfl) he0, hS⟩
        · obtain ⟨_, hv, y88⟩ := hF.at_ 11 _ 88 rfl rfl (by simp [he])
          obtain rfl := (vp11 A8 c8 A9 c9 _).1 hv
          have v88 := getD_of y88
          refine wpOp_step rfl (fun K hK => ?_)
          go_simp
          exact hK _ _ ⟨A8, c8, A9, c9, hp rfl rfl (by rw [z0]; decide) ((vp12 A8 c8 A9 c9 _).2 rfl) he0, hS⟩
        · obtain ⟨_, hv, y89⟩ := hF.at_ 12 _ 89 rfl rfl (by simp [he])
          obtain rfl := (vp12 A8 c8 A9 c9 _).1 hv
          have v89 := getD_of y89
          obtain ⟨_, hv, y88⟩ := hF.at_ 11 _ 88 rfl rfl (by simp [he])
          obtain rfl := (vp11 A8 c8 A9 c9 _).1 hv
          have v88 := getD_of y88
          refine wpOp_step rfl (fun K hK => ?_)
          go_simp
          exact hK _ _ ⟨A8, c8, A9, c9, hp rfl rfl (by rw [z0]; decide) ((vp13 A8 c8 A9 c9 _).2 rfl) he0, hS⟩
        · obtain ⟨_, hv, y88⟩ := hF.at_ 11 _ 88 rfl rfl (by simp [he])
          obtain rfl := (vp11 A8 c8 A9 c9 _).1 hv
          have v88 := getD_of y88
          obtain ⟨_, hv, y90⟩ := hF.at_ 13 _ 90 rfl rfl (by simp [he])
          obtain rfl := (vp13 A8 c8 A9 c9 _).1 hv
          have v90 := getD_of y90
          refine wpOp_step rfl (fun K hK => ?_)
          go_simp
          exact hK _ _ ⟨A8, c8, A9, c9, hp rfl rfl (by rw [z0]; decide) ((vp14 A8 c8 A9 c9 _).2 rfl) he0, hS⟩
        · obtain ⟨_, hv, y91⟩ := hF.at_ 14 _ 91 rfl rfl (by simp [he])
          obtain rfl := (vp14 A8 c8 A9 c9 _).1 hv
          have v91 := getD_of y91
          refine wpOp_step rfl (fun K hK => ?_)
          go_simp
          exact hK _ _ ⟨A8, c8, A9, c9, hp rfl rfl (by rw [z0]; decide) ((vp15 A8 c8 A9 c9 _).2 rfl) he0, hS⟩
        · obtain ⟨_, hv, y92⟩ := hF.at_ 15 _ 92 rfl rfl (by simp [he])
          obtain rfl := (vp15 A8 c8 A9 c9 _).1 hv
          have v92 := getD_of y92
          refine wpOp_step rfl (fun K hK => ?_)
          go_simp
          exact hK _ _ ⟨A8, c8, A9, c9, hp rfl rfl (by rw [z0]; decide) ((vp16 A8 c8 A9 c9 _).2 rfl) he0, hS⟩
        · obtain ⟨_, hv, y93⟩ := hF.at_ 16 _ 93 rfl rfl (by simp [he])
          obtain rfl := (vp16 A8 c8 A9 c9 _).1 hv
          have v93 := getD_of y93
          obtain ⟨_, hv, y92⟩ := hF.at_ 15 _ 92 rfl rfl (by simp [he])
          obtain rfl := (vp15 A8 c8 A9 c9 _).1 hv
          have v92 := getD_of y92
          refine wpOp_step rfl (fun K hK => ?_)
          go_simp
          exact hK _ _ ⟨A8, c8, A9, c9, hp rfl rfl (by rw [z0]; decide) ((vp17 A8 c8 A9 c9 _).2 rfl) he0, hS⟩
        · obtain ⟨_, hv, y94⟩ := hF.at_ 17 _ 94 rfl rfl (by simp [he])
          obtain rfl := (vp17 A8 c8 A9 c9 _).1 hv
          have v94 := getD_of y94
          obtain ⟨_, hv, y92⟩ := hF.at_ 15 _ 92 rfl rfl (by simp [he])
          obtain rfl := (vp15 A8 c8 A9 c9 _).1 hv
          have v92 := getD_of y92
          refine wpOp_step rfl (fun K hK => ?_)
          go_simp
          exact hK _ _ ⟨A8, c8, A9, c9, hp rfl rfl (by rw [z0]; decide) ((vp18 A8 c8 A9 c9 _).2 rfl) he0, hS⟩
        · obtain ⟨_, hv, y92⟩ := hF.at_ 15 _ 92 rfl rfl (by simp [he])
          obtain rfl := (vp15 A8 c8 A9 c9 _).1 hv
          have v92 := getD_of y92
          obtain ⟨_, hv, y95⟩ := hF.at_ 18 _ 95 rfl rfl (by simp [he])
          obtain rfl := (vp18 A8 c8 A9 c9 _).1 hv
          have v95 := getD_of y95
          refine wpOp_step rfl (fun K hK => ?_)
          go_simp
          exact hK _ _ ⟨A8, c8, A9, c9, hp rfl rfl (by rw [z0]; decide) ((vp19 A8 c8 A9 c9 _).2 rfl) he0, hS⟩
        · obtain ⟨_, hv, y96⟩ := hF.at_ 19 _ 96 rfl rfl (by simp [he])
          obtain rfl := (vp19 A8 c8 A9 c9 _).1 hv
          have v96 := getD_of y96
          refine wpOp_step rfl (fun K hK => ?_)
          go_simp
          exact hK _ _ ⟨A8, c8, A9, c9, hp rfl rfl (by rw [z0]; decide) ((vp20 A8 c8 A9 c9 _).2 rfl) he0, hS⟩
        · obtain ⟨_, hv, y97⟩ := hF.at_ 20 _ 97 rfl rfl (by simp [he])
          obtain rfl := (vp20 A8 c8 A9 c9 _).1 hv
          have v97 := getD_of y97
          refine wpOp_step rfl (fun K hK => ?_)
          go_simp
          exact hK _ _ ⟨A8, c8, A9, c9, hp rfl rfl (by rw [z0]; decide) ((vp21 A8 c8 A9 c9 _).2 rfl) he0, hS⟩
        · obtain ⟨_, hv, y98⟩ := hF.at_ 21 _ 98 rfl rfl (by simp [he])
          obtain rfl := (vp21 A8 c8 A9 c9 _).1 hv
          have v98 := getD_of y98
          obtain ⟨_, hv, y97⟩ := hF.at_ 20 _ 97 rfl rfl (by simp [he])
          obtain rfl := (vp20 A8 c8 A9 c9 _).1 hv
          have v97 := getD_of y97
          refine wpOp_step rfl (fun K hK => ?_)
          go_simp
          exact hK _ _ ⟨A8, c8, A9, c9, hp rfl rfl (by rw [z0]; decide) ((vp22 A8 c8 A9 c9 _).2 rfl) he0, hS⟩
        · obtain ⟨_, hv, y97⟩ := hF.at_ 20 _ 97 rfl rfl (by simp [he])
          obtain rfl := (vp20 A8 c8 A9 c9 _).1 hv
          have v97 := getD_of y97
          obtain ⟨_, hv, y99⟩ := hF.at_ 22 _ 99 rfl rfl (by simp [he])
          obtain rfl := (vp22 A8 c8 A9 c9 _).1 hv
          have v99 := getD_of y99
          refine wpOp_step rfl (fun K hK => ?_)
          go_simp
          exact hK _ _ ⟨A8, c8, A9, c9, hp rfl rfl (by rw [z0]; decide) ((vp23 A8 c8 A9 c9 _).2 rfl) he0, hS⟩
        · obtain ⟨_, hv, y100⟩ := hF.at_ 23 _ 100 rfl rfl (by simp [he])
          obtain rfl := (vp23 A8 c8 A9 c9 _).1 hv
          have v100 := getD_of y100
          refine wpOp_step rfl (fun K hK => ?_)
          go_simp
          exact hK _ _ ⟨A8, c8, A9, c9, hp rfl rfl (by rw [z0]; decide) ((vp24 A8 c8 A9 c9 _).2 rfl) he0, hS⟩
        · obtain ⟨_, hv, y101⟩ := hF.at_ 24 _ 101 rfl rfl (by simp [he])
          obtain rfl := (vp24 A8 c8 A9 c9 _).1 hv
          have v101 := getD_of y101
          refine wpOp_step rfl (fun K hK => ?_)
          go_simp
          exact hK _ _ ⟨A8, c8, A9, c9, hp rfl rfl (by rw [z0]; decide) ((vp25 A8 c8 A9 c9 _).2 rfl) he0, hS⟩
        · obtain ⟨_, hv, y101⟩ := hF.at_ 24 _ 101 rfl rfl (by simp [he])
          obtain rfl := (vp24 A8 c8 A9 c9 _).1 hv
          have v101 := getD_of y101
          refine wpOp_step rfl (fun K hK => ?_)
          go_simp
          exact hK _ _ ⟨A8, c8, A9, c9, hp rfl rfl (by rw [z0]; decide) ((vp26 A8 c8 A9 c9 _).2 rfl) he0, hS⟩
        · obtain ⟨_, hv, y101⟩ := hF.at_ 24 _ 101 rfl rfl (by simp [he])
          obtain rfl := (vp24 A8 c8 A9 c9 _).1 hv
          have v101 := getD_of y101
          refine wpOp_step rfl (fun K hK => ?_)
          go_simp
          exact hK _ _ ⟨A8, c8, A9, c9, hp rfl rfl (by rw [z0]; decide) ((vp27 A8 c8 A9 c9 _).2 rfl) he0, hS⟩
        · obtain ⟨_, hv, y103⟩ := hF.at_ 26 _ 103 rfl rfl (by simp [he])
          obtain rfl := (vp26 A8 c8 A9 c9 _).1 hv
          have v103 := getD_of y103
          obtain ⟨_, hv, y104⟩ := hF.at_ 27 _ 104 rfl rfl (by simp [he])
          obtain rfl := (vp27 A8 c8 A9 c9 _).1 hv
          have v104 := getD_of y104
          obtain ⟨_, hv, y101⟩ := hF.at_ 24 _ 101 rfl rfl (by simp [he])
          obtain rfl := (vp24 A8 c8 A9 c9 _).1 hv
          have v101 := getD_of y101
          refine wpOp_step rfl (fun K hK => ?_)
          go_simp
          exact hK _ _ ⟨A8, c8, A9, c9, hp rfl rfl (by rw [z0]; decide) ((vp28 A8 c8 A9 c9 _).2 rfl) he0, hS⟩
        · obtain ⟨_, hv, y105⟩ := hF.at_ 28 _ 105 rfl rfl (by simp [he])
          obtain rfl := (vp28 A8 c8 A9 c9 _).1 hv
          have v105 := getD_of y105
          obtain ⟨_, hv, y101⟩ := hF.at_ 24 _ 101 rfl rfl (by simp [he])
          obtain rfl := (vp24 A8 c8 A9 c9 _).1 hv
          have v101 := getD_of y101
          have h35 : L 35 = false := by
            cases hh : L 35 with
            | false => rfl
            | true =>
              have z34 : L 34 = true := by have h := fun e => hF.dc 35 _ e rfl hh; simp [Region.binds] at h; simp [h]
              have z29 : L 29 = true := by have h := fun e => hF.dc 34 _ e rfl z34; simp [Region.binds] at h; simp [h]
              rw [hi] at z29
              cases z29
          have h34 : L 34 = false := by
            cases hh : L 34 with
            | false => rfl
            | true =>
              have z29 : L 29 = true := by have h := fun e => hF.dc 34 _ e rfl hh; simp [Region.binds] at h; simp [h]
              rw [hi] at z29
              cases z29
          rw [if_neg (by simp [h35]), if_neg (by simp [h34]), if_neg (by simp [hi])] at hS
          refine wpOp_step rfl (fun K hK => ?_)
          go_simp
          refine (cK.out w' (B7.out.trans (hS.mono B7.out.size))).mono ?_; rintro en w8 ⟨A8', c8', hc8, rfl, hs8⟩
          have hS8 := ((Sep.nil_ w7).later hS).join hs8
          have hF2 := hF.reV (hre L A8 c8 A9 c9 A8' c8' A9 c9 (.inr hi) (.inl ⟨rfl, rfl⟩))
          exact hK _ _ ⟨A8', c8', A9, c9, hF2.put (by kernel_rfl) rfl rfl (by rw [z0]; decide) ((vp29 A8' c8' A9 c9 _).2 rfl) he0, by rw [if_neg (by simp [h35]), if_neg (by simp [h34]), if_pos (by simp)]; exact hS8⟩
        · obtain ⟨_, hv, y101⟩ := hF.at_ 24 _ 101 rfl rfl (by simp [he])
          obtain rfl := (vp24 A8 c8 A9 c9 _).1 hv
          have v101 := getD_of y101
          refine wpOp_step rfl (fun K hK => ?_)
          go_simp
          exact hK _ _ ⟨A8, c8, A9, c9, hp rfl rfl (by rw [z0]; decide) ((vp30 A8 c8 A9 c9 _).2 rfl) he0, hS⟩
        · obtain ⟨_, hv, y101⟩ := hF.at_ 24 _ 101 rfl rfl (by simp [he])
          obtain rfl := (vp24 A8 c8 A9 c9 _).1 hv
          have v101 := getD_of y101
          refine wpOp_step rfl (fun K hK => ?_)
          go_simp
          exact hK _ _ ⟨A8, c8, A9, c9, hp rfl rfl (by rw [z0]; decide) ((vp31 A8 c8 A9 c9 _).2 rfl) he0, hS⟩
        · obtain ⟨_, hv, y108⟩ := hF.at_ 31 _ 108 rfl rfl (by simp [he])
          obtain rfl := (vp31 A8 c8 A9 c9 _).1 hv
          have v108 := getD_of y108
          obtain ⟨_, hv, y101⟩ := hF.at_ 24 _ 101 rfl rfl (by simp [he])
          obtain rfl := (vp24 A8 c8 A9 c9 _).1 hv
          have v101 := getD_of y101
          refine wpOp_step rfl (fun K hK => ?_)
          go_simp
          exact hK _ _ ⟨A8, c8, A9, c9, hp rfl rfl (by rw [z0]; decide) ((vp32 A8 c8 A9 c9 _).2 rfl) he0, hS⟩
        · obtain ⟨_, hv, y107⟩ := hF.at_ 30 _ 107 rfl rfl (by simp [he])
          obtain rfl := (vp30 A8 c8 A9 c9 _).1 hv
          have v107 := getD_of y107
          obtain ⟨_, hv, y109⟩ := hF.at_ 32 _ 109 rfl rfl (by simp [he])
          obtain rfl := (vp32 A8 c8 A9 c9 _).1 hv
          have v109 := getD_of y109
          obtain ⟨_, hv, y101⟩ := hF.at_ 24 _ 101 rfl rfl (by simp [he])
          obtain rfl := (vp24 A8 c8 A9 c9 _).1 hv
          have v101 := getD_of y101
          refine wpOp_step rfl (fun K hK => ?_)
          go_simp
          exact hK _ _ ⟨A8, c8, A9, c9, hp rfl rfl (by rw [z0]; decide) ((vp33 A8 c8 A9 c9 _).2 rfl) he0, hS⟩
        · obtain ⟨_, hv, y106⟩ := hF.at_ 29 _ 106 rfl rfl (by simp [he])
          obtain rfl := (vp29 A8 c8 A9 c9 _).1 hv
          have v106 := getD_of y106
          obtain ⟨_, hv, y110⟩ := hF.at_ 33 _ 110 rfl rfl (by simp [he])
          obtain rfl := (vp33 A8 c8 A9 c9 _).1 hv
          have v110 := getD_of y110
          obtain ⟨_, hv, y101⟩ := hF.at_ 24 _ 101 rfl rfl (by simp [he])
          obtain rfl := (vp24 A8 c8 A9 c9 _).1 hv
          have v101 := getD_of y101
          have h35 : L 35 = false := by
            cases hh : L 35 with
            | false => rfl
            | true =>
              have z34 : L 34 = true := by have h := fun e => hF.dc 35 _ e rfl hh; simp [Region.binds] at h; simp [h]
              rw [hi] at z34
              cases z34
          have t29 : L 29 = true := by simp [he]
          rw [if_neg (by simp [h35]), if_neg (by simp [hi]), if_pos t29] at hS
          refine wpOp_at rfl (by simp [Region.wanted, yielded, y101]) ?_
          refine oper_append_sep hS 0 (.tmp 106) (.tmp 110) 22 rfl 24 ti (.agg #[.string ⟨#[]⟩, .int .i64 0]) 2 24 Try.underlying22 hti t0 t1 t2 rfl (by omega) _ p _ v106 rfl _ _ (n - p1) (c - p1) _ v110 (HDR.out.later (B7.out.trans (hS.below.mono B7.out.size))) (En.one _) (by simp only [maxLen]; omega) (by omega) ?_
          intro A9' c9' w9 hc9 hg9 hs9
          have hF2 := hF.reV (hre L A8 c8 A9 c9 A8 c8 A9' c9' (.inl ⟨rfl, rfl⟩) (.inr hi))
          exact ⟨A8, c8, A9', c9', hF2.put (by kernel_rfl) rfl rfl (by rw [z0]; decide) ((vp34 A8 c8 A9' c9' _).2 rfl) he0, by rw [if_neg (by simp [h35]), if_pos (by simp)]; exact hs9⟩
        · obtain ⟨_, hv, y102⟩ := hF.at_ 25 _ 102 rfl rfl (by simp [he])
          obtain rfl := (vp25 A8 c8 A9 c9 _).1 hv
          have v102 := getD_of y102
          obtain ⟨_, hv, y111⟩ := hF.at_ 34 _ 111 rfl rfl (by simp [he])
          obtain rfl := (vp34 A8 c8 A9 c9 _).1 hv
          have v111 := getD_of y111
          obtain ⟨_, hv, y101⟩ := hF.at_ 24 _ 101 rfl rfl (by simp [he])
          obtain rfl := (vp24 A8 c8 A9 c9 _).1 hv
          have v101 := getD_of y101
          have t34 : L 34 = true := by simp [he]
          rw [if_neg (by simp [hi]), if_pos t34] at hS
          refine wpOp_step rfl (fun K hK => ?_)
          go_simp
          rw [hpn2] at hS
          refine (cE.out w' A9 c9 hS.below (hS.rd 0 rfl)).mono ?_; rintro en w9 ⟨rfl, hb9⟩
          have hS9 := hS.below.trans (hb9.mono hS.below.size)
          exact hK _ _ ⟨A8, c8, A9, c9, hp rfl rfl (by rw [z0]; decide) ((vp35 A8 c8 A9 c9 _).2 rfl) he0, by rw [if_pos (by simp)]; exact hS9⟩
        · obtain ⟨_, hv, y101⟩ := hF.at_ 24 _ 101 rfl rfl (by simp [he])
          obtain rfl := (vp24 A8 c8 A9 c9 _).1 hv
          have v101 := getD_of y101
          obtain ⟨_, hv, y112⟩ := hF.at_ 35 _ 112 rfl rfl (by simp [he])
          obtain rfl := (vp35 A8 c8 A9 c9 _).1 hv
          have v112 := getD_of y112
          refine wpOp_step rfl (fun K hK => ?_)
          go_simp
          exact hK _ _ ⟨A8, c8, A9, c9, hp rfl rfl (by rw [z0]; decide) ((vp36 A8 c8 A9 c9 _).2 rfl) he0, hS⟩
        · obtain ⟨_, hv, y113⟩ := hF.at_ 36 _ 113 rfl rfl (by simp [he])
          obtain rfl := (vp36 A8 c8 A9 c9 _).1 hv
          have v113 := getD_of y113
          refine wpOp_step rfl (fun K hK => ?_)
          go_simp
          exact hK _ _ ⟨A8, c8, A9, c9, hp rfl rfl (by rw [z0]; decide) ((vp37 A8 c8 A9 c9 _).2 rfl) he0, hS⟩
      · rintro L ac w' ⟨A8, c8, A9, c9, hF, hS⟩ hall
        have t29 := hall 29 (by decide)
        have t34 := hall 34 (by decide)
        have t35 := hall 35 (by decide)
        rw [if_pos t35] at hS
        obtain ⟨_, hv, y4⟩ := hF.at_ 37 _ 4 rfl rfl (hall 37 (by decide))
        obtain rfl := (vp37 A8 c8 A9 c9 _).1 hv
        have hdf : ac.defers = [] := hF.df.trans zd
        have HS9 := Lib.hid (B7.out.trans (hS.mono B7.out.size))
        clear hS hF hre HTK HDR cK cE
        go_wp2
        refine bodyPost_ret (v := .bool true) (by simp [results, Try.results3, y4]) hdf ?_
        exact Ret.mk rfl HS9.out
    · have hno : ∀ x ∈ l, x.nm ≠ em := fun x hx hxn => by
        obtain ⟨i, hi⟩ := List.mem_iff_getElem?.1 hx
        exact hex ⟨i, x, hi, hxn⟩
      obtain ⟨rfl, rfl⟩ := HF.out.inv3 HRI.out hno
      obtain ⟨ho2, rfl⟩ := HREM.out.inv3 HRI.out hno
      obtain rfl := HAT.out.inv3 hno
      obtain rfl : n2 = 0 := by rw [HN2.out, ho2]; rfl
      have HNO := Lib.hid hno
      clear ho2 hex hno HREM HAT HF
      go_wp2_with fail
      refine (cGo.out w7).mono ?_; rintro en w8 ⟨rfl, hb8⟩
      have B8 := Lib.hid (B7.out.trans (hb8.mono B7.out.size))
      have g0 := (hb8.cell (World.block_lt_of_cell? w7 _ f0)).trans f0
      have g1 := (hb8.cell (World.block_lt_of_cell? w7 _ f1)).trans f1
      have HR1' := Lib.hid (HR1.out.later hb8)
      clear hb8 f0 f1 HR1 HR2' B7
      cases gb with
      | false =>
        have hg : ¬ GoodB em := fun h => absurd (HGB.out.2 h) (by decide)
        obtain ⟨ho1, rfl⟩ := HADD.out.inv3 HRI.out HNO.out hg
        obtain rfl : n1 = 0 := by rw [HN1.out, ho1]; rfl
        clear ho1 hg
        go_wp2
        go_ret
        exact Ret.mk rfl B8.out
      | true =>
        have hg : GoodB em := by have := HGB.out; simpa using this
        obtain ⟨ho1, rfl⟩ := HADD.out.inv4 HRI.out HNO.out hg
        obtain rfl : n1 = n + 1 := by rw [HN1.out, ho1, Srt.isort_len, List.length_append, HL.out]; rfl
        have HO1 := Lib.hid ho1
        clear ho1 hg
        generalize w8 = w7 at B8 g0 g1 HR1' ⊢
        have B7 := B8
        have f0 := g0
        have f1 := g1
        clear B8 g0 g1
        have cK := Lib.hid (fun W (hW : Below w.heap.size w W) => eclone_any A n c (l.flatMap En.cells) W (HR.out.later hW) (En.one l) (by omega) (by omega))
        have cO := Lib.hid (fun (W : World) (A' : Option Addr) (c' : Nat) (hR : Rd W W.heap.size 2 A' (n + 1) (l.flatMap En.cells ++ [.string em, .int .i64 ei])) => osort_any A' (n + 1) c' (l ++ [⟨em, ei⟩]) W (by rw [List.flatMap_append]; exact hR) (by rw [List.length_append, HL.out]; rfl) (by omega))
        have cE := Lib.hid (fun (W : World) (A' : Option Addr) (c' : Nat) (hW : Below w7.heap.size w7 W) (hR : Rd W W.heap.size 2 A' (n + 1) ((Srt.isort ltE (n + 1) (l ++ [⟨em, ei⟩])).flatMap En.cells)) => equal_entries A1 A' (n + 1) c1 c' o1 W (HR1'.out.later hW) (by rw [HO1.out, HL.out]; exact hR) HN1.out.symm (by omega))
        go_upto_region 15 with (fail)
        refine region_abs ?_
        intro a0 ha0
        have z0 : a0.tmps.size = 152 := by rw [ha0]; rfl
        have zd : a0.defers = [] := by rw [ha0]
        have o0 : a0.tmps[0]? = some (.slice A n c) := by rw [ha0]; rfl
        have o3 : a0.tmps[3]? = some (.pointer (some ⟨gx, 0, none⟩)) := by rw [ha0]; rfl
        have o7 : a0.tmps[7]? = some (.slice A1 (n + 1) c1) := by rw [ha0]; rfl
        have o8 : a0.tmps[8]? = some (.int .i64 0) := by rw [ha0]; rfl
        clear ha0
        obtain ⟨Vp, hVp⟩ : ∃ Vp : Nat → Value → Prop, Vp = fun i v => (match i with | 0 => v = .int .i64 0 | 1 => v = .bool true | 2 => v = .bool true | 3 => v = .slice A1 (n + 1) c1 | 4 => v = .slice A n c | 6 => v = .agg #[.string em, .int .i64 ei] | 11 => v = .bool true | 12 => v = .bool true | _ => True) := ⟨_, rfl⟩
        obtain ⟨V, hV⟩ : ∃ V : Option Addr → Nat → Nat → Option Addr → Nat → Option Addr → Nat → Nat → Value → Prop, V = fun A8 c8 gv A9 c9 A3 c3 i v => (if i = 5 then v = .slice A8 n c8 else if i = 7 then v = .slice (some ⟨gv, 0, none⟩) 1 1 else if i = 8 then v = .slice A9 (n + 1) c9 else if i = 9 then v = .slice A3 (n + 1) c3 else if i = 10 then v = .bool true else Vp i v) := ⟨_, rfl⟩
        have vp0 : ∀ A8 c8 gv A9 c9 A3 c3 v, V A8 c8 gv A9 c9 A3 c3 0 v ↔ v = .int .i64 0 := fun A8 c8 gv A9 c9 A3 c3 v => by rw [hV, hVp]; exact Iff.rfl
        have vp1 : ∀ A8 c8 gv A9 c9 A3 c3 v, V A8 c8 gv A9 c9 A3 c3 1 v ↔ v = .bool true := fun A8 c8 gv A9 c9 A3 c3 v => by rw [hV, hVp]; exact Iff.rfl
        have vp2 : ∀ A8 c8 gv A9 c9 A3 c3 v, V A8 c8 gv A9 c9 A3 c3 2 v ↔ v = .bool true := fun A8 c8 gv A9 c9 A3 c3 v => by rw [hV, hVp]; exact Iff.rfl
        have vp3 : ∀ A8 c8 gv A9 c9 A3 c3 v, V A8 c8 gv A9 c9 A3 c3 3 v ↔ v = .slice A1 (n + 1) c1 := fun A8 c8 gv A9 c9 A3 c3 v => by rw [hV, hVp]; exact Iff.rfl
        have vp4 : ∀ A8 c8 gv A9 c9 A3 c3 v, V A8 c8 gv A9 c9 A3 c3 4 v ↔ v = .slice A n c := fun A8 c8 gv A9 c9 A3 c3 v => by rw [hV, hVp]; exact Iff.rfl
        have vp6 : ∀ A8 c8 gv A9 c9 A3 c3 v, V A8 c8 gv A9 c9 A3 c3 6 v ↔ v = .agg #[.string em, .int .i64 ei] := fun A8 c8 gv A9 c9 A3 c3 v => by rw [hV, hVp]; exact Iff.rfl
        have vp11 : ∀ A8 c8 gv A9 c9 A3 c3 v, V A8 c8 gv A9 c9 A3 c3 11 v ↔ v = .bool true := fun A8 c8 gv A9 c9 A3 c3 v => by rw [hV, hVp]; exact Iff.rfl
        have vp12 : ∀ A8 c8 gv A9 c9 A3 c3 v, V A8 c8 gv A9 c9 A3 c3 12 v ↔ v = .bool true := fun A8 c8 gv A9 c9 A3 c3 v => by rw [hV, hVp]; exact Iff.rfl
        have vp5 : ∀ A8 c8 gv A9 c9 A3 c3 v, V A8 c8 gv A9 c9 A3 c3 5 v ↔ v = .slice A8 n c8 := fun A8 c8 gv A9 c9 A3 c3 v => by rw [hV]; exact Iff.rfl
        have vp7 : ∀ A8 c8 gv A9 c9 A3 c3 v, V A8 c8 gv A9 c9 A3 c3 7 v ↔ v = .slice (some ⟨gv, 0, none⟩) 1 1 := fun A8 c8 gv A9 c9 A3 c3 v => by rw [hV]; exact Iff.rfl
        have vp8 : ∀ A8 c8 gv A9 c9 A3 c3 v, V A8 c8 gv A9 c9 A3 c3 8 v ↔ v = .slice A9 (n + 1) c9 := fun A8 c8 gv A9 c9 A3 c3 v => by rw [hV]; exact Iff.rfl
        have vp9 : ∀ A8 c8 gv A9 c9 A3 c3 v, V A8 c8 gv A9 c9 A3 c3 9 v ↔ v = .slice A3 (n + 1) c3 := fun A8 c8 gv A9 c9 A3 c3 v => by rw [hV]; exact Iff.rfl
        have vp10 : ∀ A8 c8 gv A9 c9 A3 c3 v, V A8 c8 gv A9 c9 A3 c3 10 v ↔ v = .bool true := fun A8 c8 gv A9 c9 A3 c3 v => by rw [hV]; exact Iff.rfl
        have hre : ∀ (L : Nat → Bool) A8 c8 gv A9 c9 A3 c3 A8' c8' gv' A9' c9' A3' c3', (A8 = A8' ∧ c8 = c8' ∨ L 5 = false) → (gv = gv' ∨ L 7 = false) → (A9 = A9' ∧ c9 = c9' ∨ L 8 = false) → (A3 = A3' ∧ c3 = c3' ∨ L 9 = false) → ∀ i v, L i = true → V A8 c8 gv A9 c9 A3 c3 i v → V A8' c8' gv' A9' c9' A3' c3' i v := by
          intro L A8 c8 gv A9 c9 A3 c3 A8' c8' gv' A9' c9' A3' c3' h1 h2 h3 h4 i v hL hv
          rw [hV] at hv ⊢
          by_cases e1 : i = 5
          · subst e1
            rcases h1 with ⟨rfl, rfl⟩ | h1
            · exact hv
            · rw [h1] at hL; cases hL
          · by_cases e2 : i = 7
            · subst e2
              rcases h2 with rfl | h2
              · exact hv
              · rw [h2] at hL; cases hL
            · by_cases e3 : i = 8
              · subst e3
                rcases h3 with ⟨rfl, rfl⟩ | h3
                · exact hv
                · rw [h3] at hL; cases hL
              · by_cases e4 : i = 9
                · subst e4
                  rcases h4 with ⟨rfl, rfl⟩ | h4
                  · exact hv
                  · rw [h4] at hL; cases hL
                · simp only [e1, e2, e3, e4, if_false] at hv ⊢
                  exact hv
        refine wp_region_inv1 (fun ops L ac w' => ∃ A8 c8 gv A9 c9 A3 c3, FrI a0 ops (V A8 c8 gv A9 c9 A3 c3) L ac ∧ (if L 10 = true then (Below w7.heap.size w7 w') else (if L 9 = true then (Sep w7 w' [.row 24 2 (.slice A3 (n + 1) c3) (n + 1) ((Srt.isort ltE (n + 1) (l ++ [⟨em, ei⟩])).flatMap En.cells)]) else (if L 8 = true then (Sep w7 w' [.row 24 2 (.slice A9 (n + 1) c9) (n + 1) (l.flatMap En.cells ++ [.string em, .int .i64 ei])]) else if L 5 = true then (if L 7 = true then Sep w7 w' [.row 24 2 (.slice A8 n c8) n (l.flatMap En.cells), .row 24 2 (.slice (some ⟨gv, 0, none⟩) 1 1) 1 [.string em, .int .i64 ei]] else Sep w7 w' [.row 24 2 (.slice A8 n c8) n (l.flatMap En.cells)]) else (if L 7 = true then Sep w7 w' [.row 24 2 (.slice (some ⟨gv, 0, none⟩) 1 1) 1 [.string em, .int .i64 ei]] else Below w7.heap.size w7 w'))))) rfl (by kernel_rfl) ?_ ?_ ?_
        · exact ⟨none, 0, 0, none, 0, none, 0, FrI.start _ _ _, by rw [if_neg (by simp), if_neg (by simp)]; exact (Below.refl w7.heap.size w7).drew⟩
        · rintro L ac w' i o ⟨A8, c8, gv, A9, c9, A3, c3, hF, hS⟩ ho hi he
          have y0 : ac.tmps[0]? = some (.slice A n c) := (hF.out 0 (by kernel_rfl)).trans o0
          have v0 := getD_of y0
          have y3 : ac.tmps[3]? = some (.pointer (some ⟨gx, 0, none⟩)) := (hF.out 3 (by kernel_rfl)).trans o3
          have v3 := getD_of y3
          have y7 : ac.tmps[7]? = some (.slice A1 (n + 1) c1) := (hF.out 7 (by kernel_rfl)).trans o7
          have v7 := getD_of y7
          have y8 : ac.tmps[8]? = some (.int .i64 0) := (hF.out 8 (by kernel_rfl)).trans o8
          have v8 := getD_of y8
          have hp := fun {i : Nat} {o : Oper} {d : Nat} {v : Value} => @FrI.put a0 ac _ (V A8 c8 gv A9 c9 A3 c3) L hF i o d v (by kernel_rfl)
          rcases i with _|_|_|_|_|_|_|_|_|_|_|_|_|i
          all_goals cases ho
          all_goals have he0 := he
          all_goals simp [Region.binds] at he
          · refine wpOp_step rfl (fun K hK => ?_)
            go_simp
            exact hK _ _ ⟨A8, c8, gv, A9, c9, A3, c3, hp rfl rfl (by rw [z0]; decide) ((vp0 A8 c8 gv A9 c9 A3 c3 _).2 rfl) he0, hS⟩
          · obtain ⟨_, hv, y140⟩ := hF.at_ 0 _ 140 rfl rfl (by simp [he])
            obtain rfl := (vp0 A8 c8 gv A9 c9 A3 c3 _).1 hv
            have v140 := getD_of y140
            refine wpOp_step rfl (fun K hK => ?_)
            go_simp
            exact hK _ _ ⟨A8, c8, gv, A9, c9, A3, c3, hp rfl rfl (by rw [z0]; decide) ((vp1 A8 c8 gv A9 c9 A3 c3 _).2 rfl) he0, hS⟩
          · obtain ⟨_, hv, y141⟩ := hF.at_ 1 _ 141 rfl rfl (by simp [he])
            obtain rfl := (vp1 A8 c8 gv A9 c9 A3 c3 _).1 hv
            have v141 := getD_of y141
            refine wpOp_step rfl (fun K hK => ?_)
            go_simp
            exact hK _ _ ⟨A8, c8, gv, A9, c9, A3, c3, hp rfl rfl (by rw [z0]; decide) ((vp2 A8 c8 gv A9 c9 A3 c3 _).2 rfl) he0, hS⟩
          · obtain ⟨_, hv, y142⟩ := hF.at_ 2 _ 142 rfl rfl (by simp [he])
            obtain rfl := (vp2 A8 c8 gv A9 c9 A3 c3 _).1 hv
            have v142 := getD_of y142
            refine wpOp_step rfl (fun K hK => ?_)
            go_simp
            exact hK _ _ ⟨A8, c8, gv, A9, c9, A3, c3, hp rfl rfl (by rw [z0]; decide) ((vp3 A8 c8 gv A9 c9 A3 c3 _).2 rfl) he0, hS⟩
          · obtain ⟨_, hv, y142⟩ := hF.at_ 2 _ 142 rfl rfl (by simp [he])
            obtain rfl := (vp2 A8 c8 gv A9 c9 A3 c3 _).1 hv
            have v142 := getD_of y142
            refine wpOp_step rfl (fun K hK => ?_)
            go_simp
            exact hK _ _ ⟨A8, c8, gv, A9, c9, A3, c3, hp rfl rfl (by rw [z0]; decide) ((vp4 A8 c8 gv A9 c9 A3 c3 _).2 rfl) he0, hS⟩
          · obtain ⟨_, hv, y144⟩ := hF.at_ 4 _ 144 rfl rfl (by simp [he])
            obtain rfl := (vp4 A8 c8 gv A9 c9 A3 c3 _).1 hv
            have v144 := getD_of y144
            obtain ⟨_, hv, y142⟩ := hF.at_ 2 _ 142 rfl rfl (by simp [he])
            obtain rfl := (vp2 A8 c8 gv A9 c9 A3 c3 _).1 hv
            have v142 := getD_of y142
            have h10 : L 10 = false := by
              cases hh : L 10 with
              | false => rfl
              | true =>
                have z9 : L 9 = true := by have h := fun e => hF.dc 10 _ e rfl hh; simp [Region.binds] at h; simp [h]
                have z8 : L 8 = true := by have h := fun e => hF.dc 9 _ e rfl z9; simp [Region.binds] at h; simp [h]
                have z5 : L 5 = true := by have h := fun e => hF.dc 8 _ e rfl z8; simp [Region.binds] at h; simp [h]
                rw [hi] at z5
                cases z5
            have h9 : L 9 = false := by
              cases hh : L 9 with
              | false => rfl
              | true =>
                have z8 : L 8 = true := by have h := fun e => hF.dc 9 _ e rfl hh; simp [Region.binds] at h; simp [h]
                have z5 : L 5 = true := by have h := fun e => hF.dc 8 _ e rfl z8; simp [Region.binds] at h; simp [h]
                rw [hi] at z5
                cases z5
            have h8 : L 8 = false := by
              cases hh : L 8 with
              | false => rfl
              | true =>
                have z5 : L 5 = true := by have h := fun e => hF.dc 8 _ e rfl hh; simp [Region.binds] at h; simp [h]
                rw [hi] at z5
                cases z5
            rw [if_neg (by simp [h10]), if_neg (by simp [h9]), if_neg (by simp [h8])] at hS
            rw [if_neg (by simp [hi])] at hS
            by_cases hl7 : L 7 = true
            · rw [if_pos hl7] at hS
              refine wpOp_step rfl (fun K hK => ?_)
              go_simp
              refine (cK.out w' (B7.out.trans (hS.below.mono B7.out.size))).mono ?_; rintro en w8 ⟨A8', c8', hc8, rfl, hs8⟩
              have hS8 := (hS.join hs8).pick [1, 0] (by decide) (by simp)
              have hF2 := hF.reV (hre L A8 c8 gv A9 c9 A3 c3 A8' c8' gv A9 c9 A3 c3 (.inr hi) (.inl rfl) (.inl ⟨rfl, rfl⟩) (.inl ⟨rfl, rfl⟩))
              exact hK _ _ ⟨A8', c8', gv, A9, c9, A3, c3, hF2.put (by kernel_rfl) rfl rfl (by rw [z0]; decide) ((vp5 _ _ _ _ _ _ _ _).2 rfl) he0, by rw [if_neg (by simp [h10]), if_neg (by simp [h9]), if_neg (by simp [h8]), if_pos (by simp), if_pos (by simp [hl7])]; exact hS8⟩
            rw [if_neg hl7] at hS
            refine wpOp_step rfl (fun K hK => ?_)
            go_simp
            refine (cK.out w' (B7.out.trans (hS.mono B7.out.size))).mono ?_; rintro en w8 ⟨A8', c8', hc8, rfl, hs8⟩
            have hS8 := ((Sep.nil_ w7).later hS).join hs8
            have hF2 := hF.reV (hre L A8 c8 gv A9 c9 A3 c3 A8' c8' gv A9 c9 A3 c3 (.inr hi) (.inl rfl) (.inl ⟨rfl, rfl⟩) (.inl ⟨rfl, rfl⟩))
            exact hK _ _ ⟨A8', c8', gv, A9, c9, A3, c3, hF2.put (by kernel_rfl) rfl rfl (by rw [z0]; decide) ((vp5 _ _ _ _ _ _ _ _).2 rfl) he0, by rw [if_neg (by simp [h10]), if_neg (by simp [h9]), if_neg (by simp [h8]), if_pos (by simp), if_neg (by simp [hl7])]; exact hS8⟩
          · obtain ⟨_, hv, y142⟩ := hF.at_ 2 _ 142 rfl rfl (by simp [he])
            obtain rfl := (vp2 A8 c8 gv A9 c9 A3 c3 _).1 hv
            have v142 := getD_of y142
            have h10 : L 10 = false := by
              cases hh : L 10 with
              | false => rfl
              | true =>
                have z9 : L 9 = true := by have h := fun e => hF.dc 10 _ e rfl hh; simp [Region.binds] at h; simp [h]
                have z8 : L 8 = true := by have h := fun e => hF.dc 9 _ e rfl z9; simp [Region.binds] at h; simp [h]
                have z7 : L 7 = true := by have h := fun e => hF.dc 8 _ e rfl z8; simp [Region.binds] at h; simp [h]
                have z6 : L 6 = true := by have h := fun e => hF.dc 7 _ e rfl z7; simp [Region.binds] at h; simp [h]
                rw [hi] at z6
                cases z6
            have h9 : L 9 = false := by
              cases hh : L 9 with
              | false => rfl
              | true =>
                have z8 : L 8 = true := by have h := fun e => hF.dc 9 _ e rfl hh; simp [Region.binds] at h; simp [h]
                have z7 : L 7 = true := by have h := fun e => hF.dc 8 _ e rfl z8; simp [Region.binds] at h; simp [h]
                have z6 : L 6 = true := by have h := fun e => hF.dc 7 _ e rfl z7; simp [Region.binds] at h; simp [h]
                rw [hi] at z6
                cases z6
            have h8 : L 8 = false := by
              cases hh : L 8 with
              | false => rfl
              | true =>
                have z7 : L 7 = true := by have h := fun e => hF.dc 8 _ e rfl hh; simp [Region.binds] at h; simp [h]
                have z6 : L 6 = true := by have h := fun e => hF.dc 7 _ e rfl z7; simp [Region.binds] at h; simp [h]
                rw [hi] at z6
                cases z6
            have h7 : L 7 = false := by
              cases hh : L 7 with
              | false => rfl
              | true =>
                have z6 : L 6 = true := by have h := fun e => hF.dc 7 _ e rfl hh; simp [Region.binds] at h; simp [h]
                rw [hi] at z6
                cases z6
            rw [if_neg (by simp [h10]), if_neg (by simp [h9]), if_neg (by simp [h8])] at hS
            have HBW : Below w7.heap.size w7 w' := by
              by_cases hl5 : L 5 = true
              · rw [if_pos hl5, if_neg (by simp [h7])] at hS; exact hS.below
              · rw [if_neg hl5, if_neg (by simp [h7])] at hS; exact hS
            have f0' := (HBW.cell (World.block_lt_of_cell? w7 _ f0)).trans f0
            have f1' := (HBW.cell (World.block_lt_of_cell? w7 _ f1)).trans f1
            have hS : (if L 10 = true then Below w7.heap.size w7 w' else if L 9 = true then Sep w7 w' [.row 24 2 (.slice A3 (n + 1) c3) (n + 1) ((Srt.isort ltE (n + 1) (l ++ [⟨em, ei⟩])).flatMap En.cells)] else if L 8 = true then Sep w7 w' [.row 24 2 (.slice A9 (n + 1) c9) (n + 1) (l.flatMap En.cells ++ [.string em, .int .i64 ei])] else if L 5 = true then (if L 7 = true then Sep w7 w' [.row 24 2 (.slice A8 n c8) n (l.flatMap En.cells), .row 24 2 (.slice (some ⟨gv, 0, none⟩) 1 1) 1 [.string em, .int .i64 ei]] else Sep w7 w' [.row 24 2 (.slice A8 n c8) n (l.flatMap En.cells)]) else (if L 7 = true then Sep w7 w' [.row 24 2 (.slice (some ⟨gv, 0, none⟩) 1 1) 1 [.string em, .int .i64 ei]] else Below w7.heap.size w7 w')) := by
              rw [if_neg (by simp [h10]), if_neg (by simp [h9]), if_neg (by simp [h8])]; exact hS
            refine wpOp_step rfl (fun K hK => ?_)
            go_simp
            exact hK _ _ ⟨A8, c8, gv, A9, c9, A3, c3, hp rfl rfl (by rw [z0]; decide) ((vp6 A8 c8 gv A9 c9 A3 c3 _).2 rfl) he0, hS⟩
          · obtain ⟨_, hv, y146⟩ := hF.at_ 6 _ 146 rfl rfl (by simp [he])
            obtain rfl := (vp6 A8 c8 gv A9 c9 A3 c3 _).1 hv
            have v146 := getD_of y146
            obtain ⟨_, hv, y142⟩ := hF.at_ 2 _ 142 rfl rfl (by simp [he])
            obtain rfl := (vp2 A8 c8 gv A9 c9 A3 c3 _).1 hv
            have v142 := getD_of y142
            have h10 : L 10 = false := by
              cases hh : L 10 with
              | false => rfl
              | true =>
                have z9 : L 9 = true := by have h := fun e => hF.dc 10 _ e rfl hh; simp [Region.binds] at h; simp [h]
                have z8 : L 8 = true := by have h := fun e => hF.dc 9 _ e rfl z9; simp [Region.binds] at h; simp [h]
                have z7 : L 7 = true := by have h := fun e => hF.dc 8 _ e rfl z8; simp [Region.binds] at h; simp [h]
                rw [hi] at z7
                cases z7
            have h9 : L 9 = false := by
              cases hh : L 9 with
              | false => rfl
              | true =>
                have z8 : L 8 = true := by have h := fun e => hF.dc 9 _ e rfl hh; simp [Region.binds] at h; simp [h]
                have z7 : L 7 = true := by have h := fun e => hF.dc 8 _ e rfl z8; simp [Region.binds] at h; simp [h]
                rw [hi] at z7
                cases z7
            have h8 : L 8 = false := by
              cases hh : L 8 with
              | false => rfl
              | true =>
                have z7 : L 7 = true := by have h := fun e => hF.dc 8 _ e rfl hh; simp [Region.binds] at h; simp [h]
                rw [hi] at z7
                cases z7
            rw [if_neg (by simp [h10]), if_neg (by simp [h9]), if_neg (by simp [h8])] at hS
            by_cases hl5 : L 5 = true
            · rw [if_pos hl5, if_neg (by simp [hi])] at hS
              have hN := hS.newRow 24 2 1 [.string em, .int .i64 ei] rfl (by decide)
              have hF2 := hF.reV (hre L A8 c8 gv A9 c9 A3 c3 A8 c8 w'.heap.size A9 c9 A3 c3 (.inl ⟨rfl, rfl⟩) (.inr hi) (.inl ⟨rfl, rfl⟩) (.inl ⟨rfl, rfl⟩))
              refine wpOp_step rfl (fun K hK => ?_)
              go_simp
              exact hK _ _ ⟨A8, c8, w'.heap.size, A9, c9, A3, c3, hF2.put (by kernel_rfl) rfl rfl (by rw [z0]; decide) ((vp7 _ _ _ _ _ _ _ _).2 rfl) he0, by rw [if_neg (by simp [h10]), if_neg (by simp [h9]), if_neg (by simp [h8]), if_pos (by simp [hl5]), if_pos (by simp)]; exact hN⟩
            rw [if_neg hl5, if_neg (by simp [hi])] at hS
            have hN := ((Sep.nil_ w7).later hS).newRow 24 2 1 [.string em, .int .i64 ei] rfl (by decide)
            have hF2 := hF.reV (hre L A8 c8 gv A9 c9 A3 c3 A8 c8 w'.heap.size A9 c9 A3 c3 (.inl ⟨rfl, rfl⟩) (.inr hi) (.inl ⟨rfl, rfl⟩) (.inl ⟨rfl, rfl⟩))
            refine wpOp_step rfl (fun K hK => ?_)
            go_simp
            exact hK _ _ ⟨A8, c8, w'.heap.size, A9, c9, A3, c3, hF2.put (by kernel_rfl) rfl rfl (by rw [z0]; decide) ((vp7 _ _ _ _ _ _ _ _).2 rfl) he0, by rw [if_neg (by simp [h10]), if_neg (by simp [h9]), if_neg (by simp [h8]), if_neg (by simp [hl5]), if_pos (by simp)]; exact hN⟩
          · obtain ⟨_, hv, y145⟩ := hF.at_ 5 _ 145 rfl rfl (by simp [he])
            obtain rfl := (vp5 A8 c8 gv A9 c9 A3 c3 _).1 hv
            have v145 := getD_of y145
            obtain ⟨_, hv, y147⟩ := hF.at_ 7 _ 147 rfl rfl (by simp [he])
            obtain rfl := (vp7 A8 c8 gv A9 c9 A3 c3 _).1 hv
            have v147 := getD_of y147
            obtain ⟨_, hv, y142⟩ := hF.at_ 2 _ 142 rfl rfl (by simp [he])
            obtain rfl := (vp2 A8 c8 gv A9 c9 A3 c3 _).1 hv
            have v142 := getD_of y142
            have h10 : L 10 = false := by
              cases hh : L 10 with
              | false => rfl
              | true =>
                have z9 : L 9 = true := by have h := fun e => hF.dc 10 _ e rfl hh; simp [Region.binds] at h; simp [h]
                have z8 : L 8 = true := by have h := fun e => hF.dc 9 _ e rfl z9; simp [Region.binds] at h; simp [h]
                rw [hi] at z8
                cases z8
            have h9 : L 9 = false := by
              cases hh : L 9 with
              | false => rfl
              | true =>
                have z8 : L 8 = true := by have h := fun e => hF.dc 9 _ e rfl hh; simp [Region.binds] at h; simp [h]
                rw [hi] at z8
                cases z8
            have t5 : L 5 = true := by simp [he]
            have t7 : L 7 = true := by simp [he]
            rw [if_neg (by simp [h10]), if_neg (by simp [h9]), if_neg (by simp [hi]), if_pos t5, if_pos t7] at hS
            refine wpOp_at rfl (by simp [Region.wanted, yielded, y142]) ?_
            refine oper_append_sep hS 0 (.tmp 145) (.tmp 147) 22 rfl 24 ti (.agg #[.string ⟨#[]⟩, .int .i64 0]) 2 24 Try.underlying22 hti t0 t1 t2 rfl (by omega) _ n _ v145 rfl _ _ 1 1 _ v147 (hS.rd 1 rfl) (by simp [Value.oneCell']) (by simp only [maxLen]; omega) (by omega) ?_
            intro A9' c9' w9 hc9 hg9 hs9
            have hs9 := hs9.pick [0] (by decide) (by simp)
            have hF2 := hF.reV (hre L A8 c8 gv A9 c9 A3 c3 A8 c8 gv A9' c9' A3 c3 (.inl ⟨rfl, rfl⟩) (.inl rfl) (.inr hi) (.inl ⟨rfl, rfl⟩))
            exact ⟨A8, c8, gv, A9', c9', A3, c3, hF2.put (by kernel_rfl) rfl rfl (by rw [z0]; decide) ((vp8 _ _ _ _ _ _ _ _).2 rfl) he0, by rw [if_neg (by simp [h10]), if_neg (by simp [h9]), if_pos (by simp)]; exact hs9⟩
          · obtain ⟨_, hv, y148⟩ := hF.at_ 8 _ 148 rfl rfl (by simp [he])
            obtain rfl := (vp8 A8 c8 gv A9 c9 A3 c3 _).1 hv
            have v148 := getD_of y148
            obtain ⟨_, hv, y142⟩ := hF.at_ 2 _ 142 rfl rfl (by simp [he])
            obtain rfl := (vp2 A8 c8 gv A9 c9 A3 c3 _).1 hv
            have v142 := getD_of y142
            have h10 : L 10 = false := by
              cases hh : L 10 with
              | false => rfl
              | true =>
                have z9 : L 9 = true := by have h := fun e => hF.dc 10 _ e rfl hh; simp [Region.binds] at h; simp [h]
                rw [hi] at z9
                cases z9
            have t8 : L 8 = true := by simp [he]
            rw [if_neg (by simp [h10]), if_neg (by simp [hi]), if_pos t8] at hS
            refine wpOp_step rfl (fun K hK => ?_)
            go_simp
            refine (cO.out w' A9 c9 (hS.rd 0 rfl)).mono ?_; rintro en w8 ⟨A3', c3', rfl, hs8⟩
            have hS8 := (hS.join hs8).pick [1] (by decide) (by simp)
            have hF2 := hF.reV (hre L A8 c8 gv A9 c9 A3 c3 A8 c8 gv A9 c9 A3' c3' (.inl ⟨rfl, rfl⟩) (.inl rfl) (.inl ⟨rfl, rfl⟩) (.inr hi))
            exact hK _ _ ⟨A8, c8, gv, A9, c9, A3', c3', hF2.put (by kernel_rfl) rfl rfl (by rw [z0]; decide) ((vp9 _ _ _ _ _ _ _ _).2 rfl) he0, by rw [if_neg (by simp [h10]), if_pos (by simp)]; exact hS8⟩
          · obtain ⟨_, hv, y143⟩ := hF.at_ 3 _ 143 rfl rfl (by simp [he])
            obtain rfl := (vp3 A8 c8 gv A9 c9 A3 c3 _).1 hv
            have v143 := getD_of y143
            obtain ⟨_, hv, y149⟩ := hF.at_ 9 _ 149 rfl rfl (by simp [he])
            obtain rfl := (vp9 A8 c8 gv A9 c9 A3 c3 _).1 hv
            have v149 := getD_of y149
            obtain ⟨_, hv, y142⟩ := hF.at_ 2 _ 142 rfl rfl (by simp [he])
            obtain rfl := (vp2 A8 c8 gv A9 c9 A3 c3 _).1 hv
            have v142 := getD_of y142
            have t9 : L 9 = true := by simp [he]
            rw [if_neg (by simp [hi]), if_pos t9] at hS
            refine wpOp_step rfl (fun K hK => ?_)
            go_simp
            refine (cE.out w' A3 c3 hS.below (hS.rd 0 rfl)).mono ?_; rintro en w9 ⟨rfl, hb9⟩
            have hS9 := hS.below.trans (hb9.mono hS.below.size)
            exact hK _ _ ⟨A8, c8, gv, A9, c9, A3, c3, hp rfl rfl (by rw [z0]; decide) ((vp10 A8 c8 gv A9 c9 A3 c3 _).2 rfl) he0, by rw [if_pos (by simp)]; exact hS9⟩
          · obtain ⟨_, hv, y142⟩ := hF.at_ 2 _ 142 rfl rfl (by simp [he])
            obtain rfl := (vp2 A8 c8 gv A9 c9 A3 c3 _).1 hv
            have v142 := getD_of y142
            obtain ⟨_, hv, y150⟩ := hF.at_ 10 _ 150 rfl rfl (by simp [he])
            obtain rfl := (vp10 A8 c8 gv A9 c9 A3 c3 _).1 hv
            have v150 := getD_of y150
            refine wpOp_step rfl (fun K hK => ?_)
            go_simp
            exact hK _ _ ⟨A8, c8, gv, A9, c9, A3, c3, hp rfl rfl (by rw [z0]; decide) ((vp11 A8 c8 gv A9 c9 A3 c3 _).2 rfl) he0, hS⟩
          · obtain ⟨_, hv, y151⟩ := hF.at_ 11 _ 151 rfl rfl (by simp [he])
            obtain rfl := (vp11 A8 c8 gv A9 c9 A3 c3 _).1 hv
            have v151 := getD_of y151
            refine wpOp_step rfl (fun K hK => ?_)
            go_simp
            exact hK _ _ ⟨A8, c8, gv, A9, c9, A3, c3, hp rfl rfl (by rw [z0]; decide) ((vp12 A8 c8 gv A9 c9 A3 c3 _).2 rfl) he0, hS⟩
        · rintro L ac w' ⟨A8, c8, gv, A9, c9, A3, c3, hF, hS⟩ hall
          have t8 := hall 8 (by decide)
          have t9 := hall 9 (by decide)
          have t10 := hall 10 (by decide)
          rw [if_pos t10] at hS
          obtain ⟨_, hv, y4⟩ := hF.at_ 12 _ 4 rfl rfl (hall 12 (by decide))
          obtain rfl := (vp12 A8 c8 gv A9 c9 A3 c3 _).1 hv
          have hdf : ac.defers = [] := hF.df.trans zd
          have HS9 := Lib.hid (B7.out.trans (hS.mono B7.out.size))
          clear hS hF hre cK cE cO
          go_wp2
          refine bodyPost_ret (v := .bool true) (by simp [results, Try.results3, y4]) hdf ?_
          exact Ret.mk rfl HS9.out

theorem entry_cells : Try.prog.cellsOf 24 = 2 := by kernel_rfl
theorem entry_bytes : Try.prog.bytesOf 24 = 24 := by kernel_rfl
theorem entry_parse {H : Type} {enc : TypeId × Value → H} {w : World} {base : Nat} {spare : Nat → Bool} {held : Bool} (n : Nat) (cs : List Value) (y : DataW H × List MemPlace)
    (h : DataW.trod enc Try.prog w base spare held n 24 cs = some y) : ∃ x : En, cs = x.cells ∧ x.nm.size ≤ maxLen := by
  obtain ⟨hl, m, hf⟩ := parse_fields Try.underlying24 (by kernel_rfl) (by kernel_rfl) h
  obtain ⟨v0, z0, e0, t0⟩ := hf 0 _ rfl
  obtain ⟨v1, z1, e1, t1⟩ := hf 1 _ rfl
  obtain ⟨a, rfl, ha⟩ := parse_string Try.underlying9 t0
  obtain ⟨b, rfl, _⟩ := parse_int Try.underlying3 t1
  match cs, hl with
  | [c0, c1], _ =>
    simp at e0 e1
    subst e0 e1
    exact ⟨⟨a, b⟩, rfl, ha⟩

set_option maxRecDepth 100000 in
set_option maxHeartbeats 400000 in
theorem dirTells_lifted (os : Os) (started : os.Started) (H : Type) (enc : TypeId × Value → H) :
    ReturnsInHanded {} Try.checked os 3 .any (Rows.dirTellsSpec.pre6 enc Try.prog Try.f3 Rows.dirTellsRow.domain false)
      (Rows.dirTellsSpec.post enc Try.prog Try.f3 false true false false) := by
  refine returnsInHanded_of_change_sized (C := Try.checked) own started (by kernel_rfl) Try.func3
    (ChangeSpec.witness6 (enc := enc) (C := Try.checked) false ⟨#[], #[.slice none 0 0, .agg #[.string ⟨#[]⟩, .int .i64 0]], []⟩ 8 (by kernel_rfl) (by kernel_rfl) (by kernel_rfl) (by kernel_rfl)) ?_
  intro W base args ds gs before hval0 hW hcnd hsz0 _
  have hval : ∀ (j : Nat) t v, Try.f3.params[j]? = some t → args[j]? = some v → Value.okWide Try.prog W .any base t v := hval0
  have hsz : (DataW.weightsEach Try.prog (Try.f3.params.toList ++ Rows.dirTellsSpec.plain.varTypes Try.prog) (ds ++ gs)).all (· ≤ reachBytes) = true := hsz0
  have hW0 := hW
  obtain ⟨p, q, hA0, hV, _, _, _⟩ := hW
  have hA : DataW.TrodAll enc Try.prog W 0 (fun _ => true) true Try.f3.params.toList args.toList ds p := hA0
  rw [Try.params3] at hA hval hsz
  obtain ⟨v0, vs0, d0, ds0, p0, q0, hargs, rfl, rfl, h0, r0⟩ := trodAll_cons hA
  obtain ⟨v1, vs1, d1, ds1, p1, q1, rfl, rfl, rfl, h1, r1⟩ := trodAll_cons r0
  obtain ⟨rfl, rfl, rfl⟩ := trodAll_nil r1
  obtain rfl : args = #[v0, v1] := by cases args; simp_all
  obtain ⟨fu0, hf0⟩ := h0
  obtain ⟨fu1, hf1⟩ := h1
  obtain ⟨A, n, cap, l, hcs, hl, hnc, hcm, _, hrd, hQ, hd⟩ := open_list En.cells (fun x => x.nm.size ≤ maxLen) Try.underlying22 entry_cells En.len (by omega) entry_parse hf0
  obtain rfl := slice_of hcs (okWide_slice Try.underlying22 (hval 0 _ v0 rfl rfl))
  obtain ⟨x, hx, hxm⟩ := entry_parse _ _ _ hf1
  obtain rfl : v1 = .agg x.cells.toArray := agg_of Try.underlying24 (hval 1 _ v1 rfl rfl) hx
  have hn := reach_of hsz (j := 0) rfl rfl Try.underlying22 entry_bytes hd
  refine (dirTells_walk A n cap l x.nm x.id W hrd hl (by omega) hnc hQ hxm).mono fun e W' ⟨he, hg⟩ => ⟨_, he, ?_⟩
  exact law_post laidOut Try.underlying4 rfl rfl (by kernel_rfl) (fun xs hx => by
    match xs, hx with
    | [_, _], _ => rfl) hW0 hg
theorem dirTells_over : Rows.dirTellsRow.holds Try.pinned (OpenSpec.ofChange Rows.dirTellsSpec) :=
  OpenClaim.holds_of_wide 3 Try.f3 rfl rfl rfl rfl rfl rfl rfl ⟨rfl, rfl, rfl, rfl, rfl⟩ rfl rfl rfl rfl rfl (by kernel_rfl) Try.func3 (by kernel_rfl)
    (of_decide_eq_true (by kernel_rfl)) (by unfold Func.isWrapper; first | (rw [if_pos (by decide +kernel)]; kernel_rfl) | (rw [if_neg (by decide +kernel)]; exact ⟨rfl, rfl⟩))
    (fun os started H enc _ => dirTells_lifted os started H enc)
theorem dirTells_holds : Rows.DirTellsSaid := dirTells_over
end Dr
end Go.Proofs.Ytelgalhkggnkbaa
