/-
  Walk of ftl's read and live. Conditions: none beyond each theorem's own premises.
-/
import Derived.Test.YtjopiepfjbnkbaaGreatDoorFtW2
namespace Go.Proofs.YtjopiepfjbnkbaaGreatDoor
open Go.RowKit
set_option linter.unusedVariables false
namespace Ft
open Nd (B Rt RtB)

theorem spot_eq (a b c d : Int) (w : World) : (Op.equalIn 10000 136 (.agg #[.int .i64 a, .int .i64 b]) (.agg #[.int .i64 c, .int .i64 d])).run Tryz.prog w = .ok (a == c && b == d) w := by
  have u3 := Tryz.underlying3
  have a3 := Tryz.isAgg3
  have hS : Tryz.prog.underlying 136 = some (.struct (Tryz.prog.fieldsOf 136)) := by kernel_rfl
  have hp : Tryz.prog.stoodInHeld 136 = false := by kernel_rfl
  rw [show (10000 : Nat) = 9999 + 1 from rfl, run_equalIn_agg w 9999 136 _ _ hS hp]
  simp only [Program.fieldsOf, Tryz.underlying136]
  go_simp
  by_cases h1 : a = c <;> by_cases h2 : b = d <;> simp [h1, h2]

theorem St.boxed {w0 w : World} {gd go ga hd : Nat} {fl : List B} {ow : S → Option Int} {at_ : Int → Option S} {R0 : List It} (h : St w0 w gd go ga fl hd ow at_ R0) (t : Nat) (l : List Value) : St w0 (w.alloc (.cells l.toArray t)) gd go ga fl hd ow at_ (.cells w.heap.size t l :: R0) := by
  obtain ⟨gf, c, no, na, hc, H⟩ := h
  refine ⟨gf, c, no, na, hc, (H.new t l).perm (.cons _ (.cons _ (.cons _ (.cons _ ?_))))⟩
  exact List.perm_append_comm (l₁ := [It.cells w.heap.size t l]) (l₂ := R0)

def LiveRet (w0 : World) (gd go ga hd : Nat) (fl : List B) (ow : S → Option Int) (at_ : Int → Option S) (R : List It) (s : S) (en : Ending) (w' : World) : Prop :=
  ∃ (m : Int) (b : Bool), en = .returned (.tuple #[.int .i64 m, .bool b]) ∧ (b = true → at_ m = some s ∧ 0 ≤ m ∧ m < 16) ∧ (b = false → ∀ m, at_ m ≠ some s) ∧ St w0 w' gd go ga fl hd ow at_ R

set_option maxRecDepth 100000 in
set_option maxHeartbeats 6400000 in
theorem live_any (gd go ga hd W : Nat) (fl : List B) (ow : S → Option Int) (at_ : Int → Option S) (has : Int → Option Int) (R0 : List It) (s : S) (w0 w : World) (hs : St w0 w gd go ga fl hd ow at_ R0) (I : Inv fl ow at_ has W) (hsb : SOk s) :
    Calls Tryz.prog 99 #[.pointer (some ⟨gd, 0, none⟩), .agg #[.int .i64 (s.b : Int), .int .i64 (s.p : Int)]] w (LiveRet w0 gd go ga hd fl ow at_ R0 s) := by
  obtain ⟨gf, c, no, na, hc, H0⟩ := hs.boxed 136 [.int .i64 (s.b : Int), .int .i64 (s.p : Int)]
  have HS : Hid (Sep w0 (w.alloc (.cells #[.int .i64 (s.b : Int), .int .i64 (s.p : Int)] 136)) (dI gd (.slice (some ⟨gf, 0, none⟩) 8 c) hd go ga :: flI (some ⟨gf, 0, none⟩) c fl :: owI go no ow :: atI ga na at_ :: .cells w.heap.size 136 [.int .i64 (s.b : Int), .int .i64 (s.p : Int)] :: R0)) := Lib.hid H0
  have HC := Lib.hid hc
  clear hs H0 hc
  obtain ⟨m0, kn, hm0, hkn, HOW⟩ : ∃ (m0 : Int) (kn : Bool), (0 ≤ m0 ∧ m0 < 16) ∧ ((ow s).elim (.int .i64 0) ienc = .int .i64 m0 ∧ (ow s).isSome = kn) ∧ Hid (ow s = if kn then some m0 else none) := by
    cases h : ow s with
    | none => exact ⟨0, false, by omega, ⟨rfl, rfl⟩, Lib.hid rfl⟩
    | some m => exact ⟨m, true, (I.own s m h).2, ⟨rfl, rfl⟩, Lib.hid rfl⟩
  obtain ⟨s0, th, hth, HAT⟩ : ∃ (s0 : S) (th : Bool), ((at_ m0).elim (.agg #[.int .i64 0, .int .i64 0]) smk = .agg #[.int .i64 (s0.b : Int), .int .i64 (s0.p : Int)] ∧ (at_ m0).isSome = th) ∧ Hid (at_ m0 = if th then some s0 else none) := by
    cases h : at_ m0 with
    | none => exact ⟨⟨0, 0⟩, false, ⟨rfl, rfl⟩, Lib.hid rfl⟩
    | some s0 => exact ⟨s0, true, ⟨rfl, rfl⟩, Lib.hid rfl⟩
  have HFIN : Hid (∀ (b : Bool) W', (b = (kn && (th && ((s0.b : Int) == (s.b : Int) && (s0.p : Int) == (s.p : Int))))) → St w0 W' gd go ga fl hd ow at_ R0 → LiveRet w0 gd go ga hd fl ow at_ R0 s (.returned (.tuple #[.int .i64 m0, .bool b])) W') := Lib.hid (fun b W' hb hS => by
    refine ⟨m0, b, rfl, fun ht => ?_, fun hf m hm => ?_, hS⟩
    · rw [ht] at hb
      have hb' := hb.symm
      simp only [Bool.and_eq_true, beq_iff_eq] at hb'
      obtain ⟨rfl, rfl, e1, e2⟩ := hb'
      have := HAT.out
      simp only [if_true] at this
      rw [this]
      obtain ⟨x, y⟩ := s0
      obtain ⟨z, u⟩ := s
      simp only at e1 e2
      rw [show x = z by omega, show y = u by omega]
      exact ⟨rfl, hm0⟩
    · have h1 := (I.spot m s hm).2.2.1
      have h2 := HOW.out
      rw [h1] at h2
      cases kn with
      | false => cases h2
      | true =>
        simp only [if_true, Option.some.injEq] at h2
        subst h2
        have h3 := HAT.out
        rw [hm] at h3
        cases th with
        | false => cases h3
        | true =>
          simp only [if_true, Option.some.injEq] at h3
          subst h3
          rw [hf] at hb
          simp at hb)
  have hw0 : (Lit.int .i64 m0).wf = true := wf_small hm0.1 (by have := hm0.2; omega)
  have HW0 := Lib.hid hw0
  have HSB := Lib.hid hsb
  have HE1 := Lib.hid hkn
  have HE2 := Lib.hid hth
  clear I hm0 hkn hth hw0 hsb
  go_enter Tryz.func99, Tryz.ntmps99
  go_upto_region 1 with (fail)
  generalize w.alloc (.cells #[.int .i64 (s.b : Int), .int .i64 (s.p : Int)] 136) = wo at HS ⊢
  generalize w.heap.size = gx at HS ⊢
  have d0 : ∀ z : LaterOf wo, z.w.cell? ⟨gd, 2, none⟩ = some (.map (some go)) := fun z => z.cell (HS.out.cell 0 rfl (k := 2) rfl)
  have d1 : ∀ z : LaterOf wo, z.w.cell? ⟨gx, 0, none⟩ = some (.int .i64 (s.b : Int)) := fun z => z.cell (HS.out.cell 4 rfl (k := 0) rfl)
  have d2 : ∀ z : LaterOf wo, z.w.cell? ⟨gx, 1, none⟩ = some (.int .i64 (s.p : Int)) := fun z => z.cell (HS.out.cell 4 rfl (k := 1) rfl)
  have l1 : ∀ z : LaterOf wo, (Instr.lookup 88 (.map (some go)) (.agg #[.int .i64 (s.b : Int), .int .i64 (s.p : Int)]) true).run Tryz.prog z.w = .ok (.tuple #[.int .i64 m0, .bool kn]) z.w := fun z => by
    have := (HS.out.later z.h).look2 2 rfl kspot HSB.out Tryz.underlying88 (iz z.w)
    rw [HE1.out.1, HE1.out.2] at this
    exact this
  refine wp_region_later (by kernel_rfl) (by kernel_rfl) ?_
  repeat (go_big_quiet_step (fail))
  refine wpQuiet_nil ?_; intro xw hw'; obtain ⟨xq, hw''⟩ := hw'; obtain ⟨xw0, xh⟩ := xq; change xw = xw0 at hw''; subst hw''
  have HS1 := Lib.hid (HS.out.later xh)
  clear HS d0 d1 d2 l1 xh
  have c3 := HS1.out.cell 0 rfl (k := 3) rfl
  have l2 : (Instr.lookup 89 (.map (some ga)) (.int .i64 m0) true).run Tryz.prog xw = .ok (.tuple #[.agg #[.int .i64 (s0.b : Int), .int .i64 (s0.p : Int)], .bool th]) xw := by
    have := HS1.out.look2 3 rfl kint HW0.out Tryz.underlying89 (sz xw)
    rw [HE2.out.1, HE2.out.2] at this
    exact this
  go_upto_region 3 with (fail)
  have HS2 : Hid (Sep w0 (xw.alloc (.cells #[.int .i64 (s0.b : Int), .int .i64 (s0.p : Int)] 136)) ((dI gd (.slice (some ⟨gf, 0, none⟩) 8 c) hd go ga :: flI (some ⟨gf, 0, none⟩) c fl :: owI go no ow :: atI ga na at_ :: .cells gx 136 [.int .i64 (s.b : Int), .int .i64 (s.p : Int)] :: R0) ++ [.cells xw.heap.size 136 [.int .i64 (s0.b : Int), .int .i64 (s0.p : Int)]])) := Lib.hid (HS1.out.new 136 [.int .i64 (s0.b : Int), .int .i64 (s0.p : Int)])
  clear HS1 c3 l2
  generalize xw.alloc (.cells #[.int .i64 (s0.b : Int), .int .i64 (s0.p : Int)] 136) = wb at HS2 ⊢
  generalize xw.heap.size = gy at HS2 ⊢
  have hy : ((dI gd (.slice (some ⟨gf, 0, none⟩) 8 c) hd go ga :: flI (some ⟨gf, 0, none⟩) c fl :: owI go no ow :: atI ga na at_ :: .cells gx 136 [.int .i64 (s.b : Int), .int .i64 (s.p : Int)] :: R0) ++ [.cells gy 136 [.int .i64 (s0.b : Int), .int .i64 (s0.p : Int)]])[R0.length + 5]? = some (.cells gy 136 [.int .i64 (s0.b : Int), .int .i64 (s0.p : Int)]) := by simp
  have d1 : ∀ z : LaterOf wb, z.w.cell? ⟨gx, 0, none⟩ = some (.int .i64 (s.b : Int)) := fun z => z.cell (HS2.out.cell 4 rfl (k := 0) rfl)
  have d2 : ∀ z : LaterOf wb, z.w.cell? ⟨gx, 1, none⟩ = some (.int .i64 (s.p : Int)) := fun z => z.cell (HS2.out.cell 4 rfl (k := 1) rfl)
  have d3 : ∀ z : LaterOf wb, z.w.cell? ⟨gy, 0, none⟩ = some (.int .i64 (s0.b : Int)) := fun z => z.cell (HS2.out.cell _ hy (k := 0) rfl)
  have d4 : ∀ z : LaterOf wb, z.w.cell? ⟨gy, 1, none⟩ = some (.int .i64 (s0.p : Int)) := fun z => z.cell (HS2.out.cell _ hy (k := 1) rfl)
  have HS3 : Hid (∀ W', Below wb.heap.size wb W' → St w0 W' gd go ga fl hd ow at_ R0) := Lib.hid (fun W' hb => ⟨gf, c, no, na, HC.out, (HS2.out.later hb).sub (.cons_cons _ (.cons_cons _ (.cons_cons _ (.cons_cons _ (.cons _ (List.sublist_append_left _ _))))))⟩)
  obtain ⟨eb, HEB⟩ : ∃ eb : Bool, Hid (eb = ((s0.b : Int) == (s.b : Int) && (s0.p : Int) == (s.p : Int))) := ⟨_, Lib.hid rfl⟩
  have sq : ∀ W' : World, (binOp .eql 136 (.agg #[.int .i64 (s0.b : Int), .int .i64 (s0.p : Int)]) (.agg #[.int .i64 (s.b : Int), .int .i64 (s.p : Int)])).run Tryz.prog W' = .ok (.bool eb) W' := fun W' => by rw [run_eql_struct, spot_eq, HEB.out]; rfl
  clear HS2 hy HE1 HE2 HOW HAT
  cases kn with
  | false =>
    refine wp_region_later (by kernel_rfl) (by kernel_rfl) ?_
    repeat (go_big_quiet_step (fail))
    refine wpQuiet_nil ?_; intro xw hw'; obtain ⟨xq, hw''⟩ := hw'; obtain ⟨xw0, xh⟩ := xq; change xw = xw0 at hw''; subst hw''
    go_wp2
    go_ret2
    exact HFIN.out false _ (by simp) (HS3.out _ xh)
  | true =>
    cases th with
    | false =>
      refine wp_region_later (by kernel_rfl) (by kernel_rfl) ?_
      repeat (go_big_quiet_step (fail))
      refine wpQuiet_nil ?_; intro xw hw'; obtain ⟨xq, hw''⟩ := hw'; obtain ⟨xw0, xh⟩ := xq; change xw = xw0 at hw''; subst hw''
      go_wp2
      go_ret2
      exact HFIN.out false _ (by simp) (HS3.out _ xh)
    | true =>
      refine wp_region_later (by kernel_rfl) (by kernel_rfl) ?_
      repeat (go_big_quiet_step (fail))
      refine wpQuiet_nil ?_; intro xw hw'; obtain ⟨xq, hw''⟩ := hw'; obtain ⟨xw0, xh⟩ := xq; change xw = xw0 at hw''; subst hw''
      go_wp2
      go_ret2
      exact HFIN.out eb _ (by simpa using HEB.out) (HS3.out _ xh)

set_option maxRecDepth 100000 in
set_option maxHeartbeats 3200000 in
theorem read_any (gd go ga hd W : Nat) (fl : List B) (x : B) (ow : S → Option Int) (at_ : Int → Option S) (has : Int → Option Int) (R0 : List It) (s : S) (w0 w : World) (hs : St w0 w gd go ga fl hd ow at_ R0) (I : Inv fl ow at_ has W) (hx : fl[s.b]? = some x) (hp : s.p < 4) (hd' : (s.p : Int) < x.done) :
    Calls Tryz.prog 44 #[.pointer (some ⟨gd, 0, none⟩), .agg #[.int .i64 (s.b : Int), .int .i64 (s.p : Int)]] w (fun en w' => en = .returned (.int .i64 (x.at s.p)) ∧ St w0 w' gd go ga fl hd ow at_ R0) := by
  obtain ⟨gf, c, no, na, hc, H0⟩ := hs.boxed 136 [.int .i64 (s.b : Int), .int .i64 (s.p : Int)]
  have HS : Hid (Sep w0 (w.alloc (.cells #[.int .i64 (s.b : Int), .int .i64 (s.p : Int)] 136)) (dI gd (.slice (some ⟨gf, 0, none⟩) 8 c) hd go ga :: flI (some ⟨gf, 0, none⟩) c fl :: owI go no ow :: atI ga na at_ :: .cells w.heap.size 136 [.int .i64 (s.b : Int), .int .i64 (s.p : Int)] :: R0)) := Lib.hid H0
  have HRT := Lib.hid I.rt
  have HWAY : Hid (Nd.Way fl ⟨3, (s.b : Int), (s.p : Int), 0⟩ fl (x.at s.p) 0) := Lib.hid (.read hx hp hd')
  have HLO : Hid (fl.length = 8) := Lib.hid I.rt.1
  clear hs H0 hx hp hd' I hc
  go_enter Tryz.func44, Tryz.ntmps44
  go_upto_region 1 with (fail)
  generalize w.alloc (.cells #[.int .i64 (s.b : Int), .int .i64 (s.p : Int)] 136) = wo at HS ⊢
  generalize w.heap.size = gx at HS ⊢
  have d1 := HS.out.cell 4 rfl (k := 0) rfl
  have d2 := HS.out.cell 4 rfl (k := 1) rfl
  go_wp2_with fail
  refine (do_any gd hd go ga (some ⟨gf, 0, none⟩) c fl fl ⟨3, (s.b : Int), (s.p : Int), 0⟩ (x.at s.p) _ w0 _ HS.out HRT.out HWAY.out HLO.out).mono ?_
  rintro en w2 ⟨rfl, A2, c2, hc2, K2⟩
  have H9 := Lib.hid K2
  clear K2 d1 d2 HS
  go_wp2
  go_ret
  exact ⟨rfl, St.mk (H9.out.sub (.cons_cons _ (.cons_cons _ (.cons_cons _ (.cons_cons _ (.cons _ (.refl _))))))) hc2⟩
end Ft
end Go.Proofs.YtjopiepfjbnkbaaGreatDoor
