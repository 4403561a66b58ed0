/-
  FsckTells: fsck.Right, Check and Clean answer as the reference does. Conditions: what is read is of bulk at most 1048576 (the second form): more blocks outside than append can bear end the call.
-/
import Derived.Test.YtlgknolcknlinaaFkW2
import Derived.Test.YtlgknolcknlinaaFkS
import Derived.Test.YtlgknolcknlinaaParse
import Derived.Test.YtlgknolcknlinaaBulk2
namespace Go.Proofs.Ytlgknolcknlinaa
open Go.ChangeShapes Go.WideShapes Go.ChangeAt Go.RowKit
open Fs (Cm CL flat cnt rightF okB ifact right_any count_any uright_any)
set_option linter.unusedVariables false
namespace Fk

theorem flat_le (B : Nat) : ∀ (l : List Cm), (∀ x ∈ l, x.bs.length ≤ B) → (flat (l.map Cm.p)).length ≤ l.length * B
  | [], _ => by simp [flat]
  | x :: t, h => by
    have h1 := flat_le B t (fun y hy => h y (by simp [hy]))
    have h2 := h x (by simp)
    have e : flat ((x :: t).map Cm.p) = x.bs ++ flat (t.map Cm.p) := rfl
    rw [e, List.length_append, List.length_cons, Nat.add_mul]
    omega
theorem mem_flat {l : List Cm} {b : Int} (h : b ∈ flat (l.map Cm.p)) : ∃ x ∈ l, b ∈ x.bs := by
  unfold flat at h
  obtain ⟨p, hp, hb⟩ := List.mem_flatMap.1 h
  obtain ⟨x, hx, rfl⟩ := List.mem_map.1 hp
  exact ⟨x, hx, hb⟩

set_option maxRecDepth 100000 in
set_option maxHeartbeats 1600000 in
theorem tells_bad (z : Int) (A A' : Option Addr) (n c n' c' : Nat) (l : List Cm) (ms : List Int) (w : World) (hr' : FRd w A' n' ms) (hn' : n' ≤ 1048576) (hb : (okB z n && rightF z (-1) ms) = false) :
    Calls Try.prog 3 #[.int .i64 z, .slice A n c, .slice A' n' c'] w (Ret w (.bool true)) := by
  have cR := Lib.hid (check_bad z A A' n c n' c' ms w hr'.1 hr'.2 (by omega) hb)
  have cP := Lib.hid (fun W (hW : Below w.heap.size w W) => right_any z A' A n c n' c' ms W (hr'.1.later hW) hr'.2 (by omega))
  have cU := Lib.hid (fun W (hW : Below w.heap.size w W) => uright_any z A' A n c n' c' ms W (hr'.1.later hW) hr'.2 (by omega))
  have cF : Hid (∀ W, Calls Try.prog 7 #[.agg #[.slice none 0 0, .slice none 0 0, .slice none 0 0, .slice none 0 0], .agg #[.slice none 0 0, .slice none 0 0, .slice none 0 0, .slice none 0 0]] W (Ret W (.bool true))) := Lib.hid (fun W =>
    samef_gen none 0 0 none 0 0 true none 0 0 none 0 0 true none 0 0 none 0 0 true none 0 0 none 0 0 true W (fun V _ => usame_nil none 0 0 V (by omega)) (fun V _ => usame_nil none 0 0 V (by omega)) (fun V _ => usame_nil none 0 0 V (by omega)) (fun V _ => usame_nil none 0 0 V (by omega)))
  rw [hb] at cP cU
  clear hr' hb
  go_enter Try.func3, Try.ntmps3
  go_wp2_with fail
  refine cR.out.mono ?_; rintro en w1 ⟨rfl, hb1⟩
  have HS0 : Hid (Sep w (w1.alloc (.cells #[.slice none 0 0, .slice none 0 0, .slice none 0 0, .slice none 0 0] 25)) [.cells w1.heap.size 25 [.slice none 0 0, .slice none 0 0, .slice none 0 0, .slice none 0 0]]) := Lib.hid (((Sep.nil_ w).later hb1).new 25 [.slice none 0 0, .slice none 0 0, .slice none 0 0, .slice none 0 0])
  clear cR hb1
  go_upto_region 2 with (fail)
  generalize w1.alloc (.cells #[.slice none 0 0, .slice none 0 0, .slice none 0 0, .slice none 0 0] 25) = u0 at HS0 ⊢
  generalize w1.heap.size = g7 at HS0 ⊢
  go_wp2_with fail
  refine (cP.out u0 HS0.out.below).mono ?_; rintro en w2 ⟨rfl, hb2⟩
  have HS1 := Lib.hid (HS0.out.later hb2)
  clear HS0 hb2 cP
  go_wp2_with fail
  refine (cU.out w2 HS1.out.below).mono ?_; rintro en w3 ⟨rfl, hb3⟩
  have HS2 := Lib.hid (HS1.out.later hb3)
  clear HS1 hb3
  go_wp2_with fail
  refine (cU.out w3 HS2.out.below).mono ?_; rintro en w4 ⟨rfl, hb4⟩
  have HS := Lib.hid (HS2.out.later hb4)
  clear HS2 hb4 cU
  have f0 := HS.out.cell 0 rfl (k := 0) rfl
  have f1 := HS.out.cell 0 rfl (k := 1) rfl
  have f2 := HS.out.cell 0 rfl (k := 2) rfl
  have f3 := HS.out.cell 0 rfl (k := 3) rfl
  go_wp2_with fail
  refine (cF.out w4).mono ?_; rintro en w5 ⟨rfl, hb5⟩
  have HS5 := Lib.hid (HS.out.later hb5)
  clear HS hb5 cF f0 f1 f2 f3
  go_wp2
  go_ret
  exact Ret.mk rfl HS5.out.below

set_option maxRecDepth 100000 in
set_option maxHeartbeats 3200000 in
theorem tells_ok (Z : Nat) (A A' : Option Addr) (n c n' c' : Nat) (l : List Cm) (ms : List Int) (w : World) (hr : CL w A n l) (hr' : FRd w A' n' ms) (hn' : n' ≤ 1048576) (hb : (okB (Z : Int) n && rightF (Z : Int) (-1) ms) = true) (hn : n ≤ 400) (hZ : Z ≤ 4096)
    (hbl : ∀ x ∈ l, x.n ≤ 1048576) (hwf : ∀ x ∈ l, ∀ b ∈ x.bs, (Lit.int .i64 b).wf = true) :
    Calls Try.prog 3 #[.int .i64 (Z : Int), .slice A n c, .slice A' n' c'] w (Ret w (.bool true)) := by
  obtain ⟨FA, hFA⟩ : ∃ FA, flat (l.map Cm.p) = FA := ⟨_, rfl⟩
  have hFL : FA.length ≤ 1099511627776 - 1 := by
    have h1 := flat_le 1048576 l (fun x hx => by rw [(hr.ok x hx).2.1]; exact hbl x hx)
    have h2 : l.length * 1048576 ≤ 400 * 1048576 := Nat.mul_le_mul_right _ (by rw [hr.len]; exact hn)
    rw [hFA] at h1
    omega
  have hwF : ∀ b ∈ FA, (Lit.int .i64 b).wf = true := fun b h => by
    rw [← hFA] at h
    obtain ⟨x, hx, hb⟩ := mem_flat h
    exact hwf x hx b hb
  obtain ⟨hod, hms0⟩ := right_od ms (-1) (Bool.and_eq_true _ _ ▸ hb).2
  have hms : ∀ y ∈ ms, 0 ≤ y ∧ y < (Z : Int) := fun y hy => by have := hms0 y hy; omega
  have cR := Lib.hid (check_ok Z A A' n c n' c' ms FA l w hr'.1 hr'.2 hn' hb hr hn hZ hFA hFL hwF hms)
  have cP := Lib.hid (fun W (hW : Below w.heap.size w W) => right_any (Z : Int) A' A n c n' c' ms W (hr'.1.later hW) hr'.2 (by omega))
  have cU := Lib.hid (fun W (hW : Below w.heap.size w W) => uright_any (Z : Int) A' A n c n' c' ms W (hr'.1.later hW) hr'.2 (by omega))
  have cV := Lib.hid (fun W (hW : Below w.heap.size w W) => ucheck_any Z A A' n c n' c' ms FA l W (hr'.later hW) hn' (hr.later hW) hn hZ hFA hFL)
  have HOD := Lib.hid hod
  have HMS := Lib.hid hms
  rw [hb] at cP cU
  clear hr hr' hb hFA hwF hod hms0 hms hbl hwf
  go_enter Try.func3, Try.ntmps3
  go_wp2_with fail
  refine cR.out.mono ?_; rintro en w1 ⟨v, S, rfl, HSS, hb1, hv⟩
  have HOK1 : Hid (FOk Z FA ms ⟨S.filter (qT Z FA), ms.filter (pz FA), S.filter (qU Z ms), S.filter (qN Z)⟩) := Lib.hid (prog_ok HSS.out.1 HSS.out.2 HOD.out HMS.out)
  generalize (⟨S.filter (qT Z FA), ms.filter (pz FA), S.filter (qU Z ms), S.filter (qN Z)⟩ : Fa) = a1 at HOK1 hv
  obtain ⟨F0, n0, c0, F1, n1, c1, F2, n2, c2, F3, n3, c3, rfl, v0, v1, v2, v3⟩ := hv
  have HV := Lib.hid (And.intro v0 (And.intro v1 (And.intro v2 v3)))
  clear v0 v1 v2 v3
  have HS0 : Hid (Below w1.heap.size w1 (w1.alloc (.cells #[.slice F0 n0 c0, .slice F1 n1 c1, .slice F2 n2 c2, .slice F3 n3 c3] 25)) ∧ Sep w (w1.alloc (.cells #[.slice F0 n0 c0, .slice F1 n1 c1, .slice F2 n2 c2, .slice F3 n3 c3] 25)) [.cells w1.heap.size 25 [.slice F0 n0 c0, .slice F1 n1 c1, .slice F2 n2 c2, .slice F3 n3 c3]]) := Lib.hid ⟨(Below.refl _ _).alloc (Nat.le_refl _) _, ((Sep.nil_ w).later hb1).new 25 [.slice F0 n0 c0, .slice F1 n1 c1, .slice F2 n2 c2, .slice F3 n3 c3]⟩
  clear cR hb1
  go_upto_region 2 with (fail)
  generalize w1.alloc (.cells #[.slice F0 n0 c0, .slice F1 n1 c1, .slice F2 n2 c2, .slice F3 n3 c3] 25) = u0 at HS0 ⊢
  generalize hg7 : w1.heap.size = g7
  have HS0' : Hid (Sep w u0 [.cells g7 25 [.slice F0 n0 c0, .slice F1 n1 c1, .slice F2 n2 c2, .slice F3 n3 c3]]) := Lib.hid (by rw [← hg7]; exact HS0.out.2)
  have HB0 := Lib.hid HS0.out.1
  clear HS0
  go_wp2_with fail
  refine (cP.out u0 HS0'.out.below).mono ?_; rintro en w2 ⟨rfl, hb2⟩
  have HS1 := Lib.hid (HS0'.out.later hb2)
  have HB1 := Lib.hid (HB0.out.trans (hb2.mono HB0.out.size))
  clear HS0' HB0 hb2 cP
  go_wp2_with fail
  refine (cU.out w2 HS1.out.below).mono ?_; rintro en w3 ⟨rfl, hb3⟩
  have HS2 := Lib.hid (HS1.out.later hb3)
  have HB2 := Lib.hid (HB1.out.trans (hb3.mono HB1.out.size))
  clear HS1 HB1 hb3
  go_wp2_with fail
  refine (cU.out w3 HS2.out.below).mono ?_; rintro en w4 ⟨rfl, hb4⟩
  have HS3 := Lib.hid (HS2.out.later hb4)
  have HB3 := Lib.hid (HB2.out.trans (hb4.mono HB2.out.size))
  clear HS2 HB2 hb4 cU
  go_wp2_with fail
  refine (cV.out w4 HS3.out.below).mono ?_; rintro en w6 ⟨v, a2, rfl, HOK2, hb6, hv⟩
  obtain rfl : a2 = a1 := FOk.one HOK2.out HOK1.out
  obtain ⟨G0, k0, d0, G1, k1, d1, G2, k2, d2, G3, k3, d3, rfl, y0, y1, y2, y3⟩ := hv
  have hft := HOK2.out.fits hZ (by omega)
  obtain ⟨x0, x1, x2, x3⟩ := HV.out
  have HB6 := HB3.out.trans (hb6.mono HB3.out.size)
  have HS6 := HS3.out.later hb6
  have hb7 : Below w6.heap.size w6 (w6.alloc (.cells #[.slice G0 k0 d0, .slice G1 k1 d1, .slice G2 k2 d2, .slice G3 k3 d3] 25)) := (Below.refl _ _).alloc (Nat.le_refl _) _
  have HS : Hid (Sep w (w6.alloc (.cells #[.slice G0 k0 d0, .slice G1 k1 d1, .slice G2 k2 d2, .slice G3 k3 d3] 25)) [.cells g7 25 [.slice F0 n0 c0, .slice F1 n1 c1, .slice F2 n2 c2, .slice F3 n3 c3], .cells w6.heap.size 25 [.slice G0 k0 d0, .slice G1 k1 d1, .slice G2 k2 d2, .slice G3 k3 d3]]) := Lib.hid (HS6.new 25 [.slice G0 k0 d0, .slice G1 k1 d1, .slice G2 k2 d2, .slice G3 k3 d3])
  have HB7 := HB6.trans (hb7.mono HB6.size)
  obtain ⟨rfl, s0⟩ := frd_same (c := c0) (c' := d0) (x0.later HB7) (y0.later hb7) hft.1
  obtain ⟨rfl, s1⟩ := frd_same (c := c1) (c' := d1) (x1.later HB7) (y1.later hb7) hft.2.1
  obtain ⟨rfl, s2⟩ := frd_same (c := c2) (c' := d2) (x2.later HB7) (y2.later hb7) hft.2.2.1
  obtain ⟨rfl, s3⟩ := frd_same (c := c3) (c' := d3) (x3.later HB7) (y3.later hb7) hft.2.2.2
  have hk0 : k0 ≤ 1099511627776 := by have := hft.1; rw [x0.2] at this; exact this
  have hk1 : k1 ≤ 1099511627776 := by have := hft.2.1; rw [x1.2] at this; exact this
  have hk2 : k2 ≤ 1099511627776 := by have := hft.2.2.1; rw [x2.2] at this; exact this
  have hk3 : k3 ≤ 1099511627776 := by have := hft.2.2.2; rw [x3.2] at this; exact this
  have C1 : Hid (∀ zz : LaterOf (w6.alloc (.cells #[.slice G0 k0 d0, .slice G1 k1 d1, .slice G2 k2 d2, .slice G3 k3 d3] 25)), Calls Try.prog 7 #[.agg #[.slice F0 k0 c0, .slice F1 k1 c1, .slice F2 k2 c2, .slice F3 k3 c3], .agg #[.slice G0 k0 d0, .slice G1 k1 d1, .slice G2 k2 d2, .slice G3 k3 d3]] zz.w (Ret zz.w (.bool true))) := Lib.hid (fun zz => samef_gen F0 k0 c0 G0 k0 d0 true F1 k1 c1 G1 k1 d1 true F2 k2 c2 G2 k2 d2 true F3 k3 c3 G3 k3 d3 true zz.w (fun V hV => s0 V (zz.h.trans (hV.mono zz.h.size))) (fun V hV => s1 V (zz.h.trans (hV.mono zz.h.size))) (fun V hV => s2 V (zz.h.trans (hV.mono zz.h.size))) (fun V hV => s3 V (zz.h.trans (hV.mono zz.h.size))))
  have C2 : Hid (∀ zz : LaterOf (w6.alloc (.cells #[.slice G0 k0 d0, .slice G1 k1 d1, .slice G2 k2 d2, .slice G3 k3 d3] 25)), Calls Try.prog 9 #[.agg #[.slice F0 k0 c0, .slice F1 k1 c1, .slice F2 k2 c2, .slice F3 k3 c3]] zz.w (Ret zz.w (.bool (((decide (k0 = 0) && decide (k1 = 0)) && decide (k2 = 0)) && decide (k3 = 0))))) := Lib.hid (fun zz => clean_gen F0 k0 c0 F1 k1 c1 F2 k2 c2 F3 k3 c3 zz.w hk0 hk1 hk2 hk3)
  have C3 : Hid (∀ zz : LaterOf (w6.alloc (.cells #[.slice G0 k0 d0, .slice G1 k1 d1, .slice G2 k2 d2, .slice G3 k3 d3] 25)), Calls Try.prog 7 #[.agg #[.slice G0 k0 d0, .slice G1 k1 d1, .slice G2 k2 d2, .slice G3 k3 d3], .agg #[.slice none 0 0, .slice none 0 0, .slice none 0 0, .slice none 0 0]] zz.w (Ret zz.w (.bool (((decide (k0 = 0) && decide (k1 = 0)) && decide (k2 = 0)) && decide (k3 = 0))))) := Lib.hid (fun zz => samef_gen G0 k0 d0 none 0 0 (decide (k0 = 0)) G1 k1 d1 none 0 0 (decide (k1 = 0)) G2 k2 d2 none 0 0 (decide (k2 = 0)) G3 k3 d3 none 0 0 (decide (k3 = 0)) zz.w (fun V _ => usame_nil G0 k0 d0 V (by omega)) (fun V _ => usame_nil G1 k1 d1 V (by omega)) (fun V _ => usame_nil G2 k2 d2 V (by omega)) (fun V _ => usame_nil G3 k3 d3 V (by omega)))
  clear s0 s1 s2 s3 hk0 hk1 hk2 hk3 x0 x1 x2 x3 y0 y1 y2 y3 HV hft HB6 HB7 HB3 hb6 hb7 HS6 HS3 HOK1 HOK2 HSS cV hg7
  generalize (((decide (k0 = 0) && decide (k1 = 0)) && decide (k2 = 0)) && decide (k3 = 0)) = e at C2 C3
  go_upto_region 7 with (fail)
  generalize w6.alloc (.cells #[.slice G0 k0 d0, .slice G1 k1 d1, .slice G2 k2 d2, .slice G3 k3 d3] 25) = u5 at HS C1 C2 C3 ⊢
  generalize w6.heap.size = g9 at HS ⊢
  have f0 := fun z : LaterOf u5 => z.cell (HS.out.cell 0 rfl (k := 0) rfl)
  have g0 := fun z : LaterOf u5 => z.cell (HS.out.cell 1 rfl (k := 0) rfl)
  have f1 := fun z : LaterOf u5 => z.cell (HS.out.cell 0 rfl (k := 1) rfl)
  have g1 := fun z : LaterOf u5 => z.cell (HS.out.cell 1 rfl (k := 1) rfl)
  have f2 := fun z : LaterOf u5 => z.cell (HS.out.cell 0 rfl (k := 2) rfl)
  have g2 := fun z : LaterOf u5 => z.cell (HS.out.cell 1 rfl (k := 2) rfl)
  have f3 := fun z : LaterOf u5 => z.cell (HS.out.cell 0 rfl (k := 3) rfl)
  have g3 := fun z : LaterOf u5 => z.cell (HS.out.cell 1 rfl (k := 3) rfl)
  refine wp_region_later (by kernel_rfl) (by kernel_rfl) ?_
  repeat (go_big_quiet_step (first | (go_at_call 7; first | with_reducible exact Calls.later (C1.out _) | with_reducible exact Calls.later (C3.out _)) | (go_at_call 9; with_reducible exact Calls.later (C2.out _))))
  refine wpQuiet_nil ?_; intro xw hw'; obtain ⟨xq, hw''⟩ := hw'; obtain ⟨xw0, xh⟩ := xq; change xw = xw0 at hw''; subst hw''
  go_wp2
  go_ret
  exact Ret.mk (bool_eq (by first | rfl | simp)) (HS.out.below.trans (xh.mono HS.out.below.size))

theorem fsckTells_walk (z : Int) (A A' : Option Addr) (n c n' c' : Nat) (l : List Cm) (ms : List Int) (w : World) (hr : CL w A n l) (hr' : FRd w A' n' ms) (hn' : n' ≤ 1048576)
    (hbl : ∀ x ∈ l, x.n ≤ 1048576 ∧ ∀ b ∈ x.bs, (Lit.int .i64 b).wf = true) :
    Calls Try.prog 3 #[.int .i64 z, .slice A n c, .slice A' n' c'] w (Ret w (.bool true)) := by
  cases hb : okB z n && rightF z (-1) ms with
  | false => exact tells_bad z A A' n c n' c' l ms w hr' hn' hb
  | true =>
    have hk : 0 ≤ z ∧ z ≤ 4096 ∧ n ≤ 400 := by
      have := (Bool.and_eq_true _ _ ▸ hb).1
      simp only [okB, Bool.and_eq_true, decide_eq_true_eq] at this
      exact ⟨this.1.1, this.1.2, this.2⟩
    obtain ⟨h0, h1, h2⟩ := hk
    obtain ⟨Z, rfl⟩ : ∃ Z : Nat, z = (Z : Int) := ⟨z.toNat, (Int.toNat_of_nonneg h0).symm⟩
    exact tells_ok Z A A' n c n' c' l ms w hr hr' hn' hb h2 (by omega) (fun x hx => (hbl x hx).1) (fun x hx => (hbl x hx).2)

theorem int_cells : Try.prog.cellsOf 3 = 1 := by kernel_rfl
theorem int_parse {H : Type} {enc : TypeId × Value → H} {w : World} {base : Nat} {spare : Nat → Bool} {held : Bool} (n : Nat) (cs : List Value) (y : DataW H × List MemPlace)
    (h : DataW.trod enc Try.prog w base spare held n 3 cs = some y) : ∃ x : Int, cs = icell x ∧ (Lit.int .i64 x).wf = true := by
  obtain ⟨n, hn, _, hw⟩ := DataW.trod_int Try.underlying3 h
  exact ⟨n, hn, hw⟩
theorem claim_cells : Try.prog.cellsOf 36 = 2 := by kernel_rfl
theorem claim_parse {H : Type} {enc : TypeId × Value → H} {w : World} {base : Nat} {spare : Nat → Bool} {held : Bool} (n : Nat) (cs : List Value) (y : DataW H × List MemPlace)
    (h : DataW.trod enc Try.prog w base spare held n 36 cs = some y) : ∃ x : Cm, cs = x.cells ∧ (x.ok w ∧ x.n ≤ Rows.uptoBulk y.1 ∧ ∀ b ∈ x.bs, (Lit.int .i64 b).wf = true) := by
  obtain ⟨hl, m, parts, hy, hf⟩ := parse_fields2 Try.underlying36 (by kernel_rfl) (by kernel_rfl) h
  obtain ⟨v0, z0, e0, t0, _⟩ := hf 0 _ rfl
  obtain ⟨v1, z1, e1, t1, hz1⟩ := hf 1 _ rfl
  obtain ⟨f, rfl, _⟩ := parse_int Try.underlying3 t0
  obtain ⟨A, k, cap, l, hcs, hll, hnc, hcm, _, hrd, hwf, hd⟩ := open_list icell (fun b => (Lit.int .i64 b).wf = true) Try.underlying23 int_cells icell_len (by omega) int_parse t1
  simp only [List.cons.injEq, and_true] at hcs
  subst hcs
  match cs, hl with
  | [c0, c1], _ =>
    simp at e0 e1
    subst e0 e1
    exact ⟨⟨f, A, k, cap, l⟩, rfl, ⟨hrd, hll, by simp only; omega⟩, Nat.le_trans (bulk_len_slice hd) (bulk_agg hy hz1), hwf⟩

set_option maxRecDepth 100000 in
theorem fsckTells_lifted (os : Os) (started : os.Started) (H : Type) (enc : TypeId × Value → H) (F : Stop.Interp) :
    ReturnsInHanded {} Try.checked os 3 .any ((Rows.OpenSpec.upto Rows.fsckTellsSpec).pre6 enc Try.prog Try.f3 Rows.fsckTellsUptoRow.domain false)
      (((Rows.OpenSpec.upto Rows.fsckTellsSpec).at F).post enc Try.prog Try.f3 false true false false) := by
  refine returnsInHanded_of_cond (C := Try.checked) (s := Rows.OpenSpec.upto Rows.fsckTellsSpec) (k := Rows.uptoSmall) rfl own started (by kernel_rfl) Try.func3
    (OpenSpec.witness (enc := enc) (C := Try.checked) (s := Rows.OpenSpec.upto Rows.fsckTellsSpec) (k := Rows.uptoSmall) rfl false ⟨#[], #[.int .i64 0, .slice none 0 0, .slice none 0 0], []⟩ 8 (by kernel_rfl) (by kernel_rfl) (by kernel_rfl)
      (x := ([.lit (.int .i64 0), .nil, .nil], [], [])) (by kernel_rfl) rfl (by kernel_rfl)) ?_
  intro W base args ds gs before hval0 hW hcnd hk _
  have hval : ∀ (j : Nat) t v, Try.f3.params[j]? = some t → args[j]? = some v → Value.okWide Try.prog W .any base t v := hval0
  have hW0 := hW
  obtain ⟨p, q, hA0, hV, _, _, _⟩ := hW
  have hA : DataW.TrodAll enc Try.prog W 0 (fun _ => true) true Try.f3.params.toList args.toList ds p := hA0
  rw [Try.params3] at hA hval
  obtain ⟨v0, vs0, d0, ds0, p0, q0, hargs, rfl, rfl, h0, r0⟩ := trodAll_cons hA
  obtain ⟨v1, vs1, d1, ds1, p1, q1, rfl, rfl, rfl, h1, r1⟩ := trodAll_cons r0
  obtain ⟨v2, vs2, d2, ds2, p2, q2, rfl, rfl, rfl, h2, r2⟩ := trodAll_cons r1
  obtain ⟨rfl, rfl, rfl⟩ := trodAll_nil r2
  obtain rfl : args = #[v0, v1, v2] := by cases args; simp_all
  obtain ⟨z, rfl, rfl, rfl, _⟩ := open_int Try.underlying3 (hval 0 _ v0 rfl rfl) h0
  obtain ⟨fu1, hf1⟩ := h1
  obtain ⟨A, n, cap, l, hcs, hl, hnc, hcm, _, hrd, hQ, _⟩ := open_list2 Cm.cells (fun x y => x.ok W ∧ x.n ≤ Rows.uptoBulk y ∧ ∀ b ∈ x.bs, (Lit.int .i64 b).wf = true) Try.underlying22 claim_cells Cm.len (by omega) claim_parse hf1
  obtain rfl := slice_of hcs (okWide_slice Try.underlying22 (hval 1 _ v1 rfl rfl))
  obtain ⟨fu2, hf2⟩ := h2
  obtain ⟨A', n', cap', ms, hcs', hl', hnc', hcm', _, hrd', _, hd'⟩ := open_list icell (fun b => (Lit.int .i64 b).wf = true) Try.underlying23 int_cells icell_len (by omega) int_parse hf2
  obtain rfl := slice_of hcs' (okWide_slice Try.underlying23 (hval 2 _ v2 rfl rfl))
  have hn' := bulk_slice hk (by simp) hd'
  have hb1 : Rows.uptoBulk d1 ≤ 1048576 := Nat.le_trans (bulk_part (by simp)) (bulk_bound hk)
  refine (fsckTells_walk z A A' n cap n' cap' l ms W ⟨hrd, hl, fun x hx => by obtain ⟨y, ⟨h, _⟩, _⟩ := hQ x hx; exact h⟩ ⟨hrd', hl'⟩ hn' (fun x hx => by obtain ⟨y, ⟨_, h, h'⟩, hy⟩ := hQ x hx; exact ⟨Nat.le_trans h (Nat.le_trans (bulk_elem hy) hb1), h'⟩)).mono fun e W' ⟨he, hg⟩ => ⟨_, he, ?_⟩
  exact law_post laidOut Try.underlying4 rfl rfl (by kernel_rfl) (fun xs hx => by
    match xs, hx with
    | [_, _, _], _ => rfl) hW0 hg

theorem fsckTells_over : Rows.fsckTellsUptoRow.holds Try.pinned (Rows.OpenSpec.upto Rows.fsckTellsSpec) :=
  OpenClaim.holds_of_cond 3 Try.f3 rfl rfl rfl rfl rfl rfl rfl ⟨rfl, rfl, rfl, rfl, rfl⟩ rfl rfl rfl rfl rfl (by kernel_rfl) Try.func3 (by kernel_rfl)
    (of_decide_eq_true (by kernel_rfl)) (by unfold Func.isWrapper; first | (rw [if_pos (by decide +kernel)]; kernel_rfl) | (rw [if_neg (by decide +kernel)]; exact ⟨rfl, rfl⟩))
    (fun os started H enc _ F => fsckTells_lifted os started H enc F)
end Fk
theorem fsckTells_holds : Rows.FsckTellsUptoSaid := Fk.fsckTells_over
end Go.Proofs.Ytlgknolcknlinaa
