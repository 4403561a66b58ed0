/-
  Paths: walks of path.Up and of the law PathGoes. Conditions: none beyond each theorem's own premises.
-/
import Derived.Test.YtgidkaidljiddaaDoorPtL
namespace Go.Proofs.YtgidkaidljiddaaDoor
open Go.RowKit Go.Shelf
set_option linter.unusedVariables false
namespace Pt

/-- the last name, and the path above -/
def upn (l : List By) : By := (l[l.length - 1]?).getD []
def upf (l : List By) : By := ppath (l.take (l.length - 1))

set_option maxRecDepth 100000 in
set_option maxHeartbeats 800000 in
theorem up_any (s : By) (hs : s.length ≤ 1048577) (w : World) :
    Calls Tryd.prog 28 #[.string (bs s)] w (Ret w (.tuple #[.string (bs (upf (parts s))), .string (bs (upn (parts s)))])) := by
  obtain ⟨ti, hti, t0, t1, t2⟩ := info_parts string_info
  have c1 := Lib.hid (parts_any s (by omega) w)
  have hs1 := parts_sum s
  obtain ⟨x, hx⟩ : ∃ x, parts s = x := ⟨_, rfl⟩
  rw [hx] at c1 hs1 ⊢
  clear hx
  rcases Nat.eq_zero_or_pos x.length with h0 | h0
  · obtain rfl : x = [] := List.eq_nil_of_length_eq_zero h0
    have i0 : ((0 : Nat) : Int) - 1 < 0 := by omega
    rw [show ([] : List By).length = 0 from rfl] at c1
    clear h0 hs1
    go_enter Tryd.func28, Tryd.ntmps28
    go_wp2_with fail
    refine c1.out.mono ?_; rintro en w1 ⟨A1, q1, hq1, rfl, hs1⟩
    have HB := Lib.hid hs1.below
    clear hs1 c1 hq1
    go_wp2
    refine bodyPost_ret (v := .tuple #[.string (bs (upf [])), .string (bs (upn []))]) (by simp [results, Tryd.results28]; exact ⟨rfl, rfl⟩) rfl ?_
    exact Ret.mk rfl HB.out
  · obtain ⟨m, hm⟩ : ∃ m, x.length = m + 1 := ⟨x.length - 1, by omega⟩
    obtain ⟨u, hu⟩ : ∃ u, x[m]? = some u := ⟨_, List.getElem?_eq_getElem (by omega)⟩
    have HU : Hid (upn x = u) := Lib.hid (by unfold upn; rw [hm]; simp [hu])
    have HF : Hid (upf x = ppath (x.take m)) := Lib.hid (by unfold upf; rw [hm]; rfl)
    obtain ⟨n, hn⟩ : ∃ n, x.length = n := ⟨_, rfl⟩
    have cW := Lib.hid (fun A c (W : World) (h : Rd W W.heap.size 1 A x.length (x.flatMap sc)) (hkc : m ≤ c) => whole_any A m c (x.take m) W (take_rd h (by omega)) (by rw [List.length_take]; omega) hkc (by have := sumL_take x m; rw [List.length_take]; omega))
    rw [hn] at c1 cW hm
    have he : (n : Int) - 1 = (m : Int) := by omega
    have i0 : ¬ (m : Int) < 0 := by omega
    have i1 : (0 : Int) ≤ (m : Int) := by omega
    have i2 : (m : Int) < (n : Int) := by omega
    have HM := Lib.hid hm
    have HU2 := Lib.hid hu
    have hmn : m < n := by omega
    have hm2 : m ≤ 1048577 := by omega
    have hwm : wrap64 (m : Int) = (m : Int) := by unfold wrap64; omega
    clear hs1 h0 hu hm hn
    go_enter Tryd.func28, Tryd.ntmps28
    go_wp2_with fail
    refine c1.out.mono ?_; rintro en w1 ⟨A1, q1, hq1, rfl, hs1⟩
    have H1 := Lib.hid hs1
    clear hs1 c1
    go_upto_region 5 with (fail)
    obtain ⟨b, off, rfl, hb, hc⟩ := (H1.out.rd 0 rfl).at_ sc_len (by omega)
    have e0 : w1.cell? ⟨b, off + m, none⟩ = some (.string (bs u)) := by simpa using hc m 0 u _ HU2.out rfl
    have e0' := fun z : LaterOf w1 => z.cell e0
    have hsl : ∀ W, (Instr.slice 42 (.slice (some ⟨b, off, none⟩) n q1) none (some (.int .i64 (m : Int))) none).run Tryd.prog W = .ok (.slice (some ⟨b, off, none⟩) m q1) W := fun W => upto_run Tryd.underlying42 (size_of_info hti t1) _ n q1 m (by omega) W
    have dW := Lib.hid (fun z : LaterOf w1 => cW.out (some ⟨b, off, none⟩) q1 z.w ((H1.out.rd 0 rfl).later z.h) (by omega))
    clear hb hc e0 cW
    refine wp_region_later (by kernel_rfl) (by kernel_rfl) ?_
    repeat (go_big_quiet_step (with_reducible exact Calls.later (dW.out _)))
    refine wpQuiet_nil ?_; intro xw hw'; obtain ⟨xq, hw''⟩ := hw'; obtain ⟨xw0, xh⟩ := xq; change xw = xw0 at hw''; subst hw''
    have HB := Lib.hid (H1.out.below.trans (xh.mono H1.out.below.size))
    go_wp2
    rw [HU.out, HF.out]
    refine bodyPost_ret (v := .tuple #[.string (bs (ppath (x.take m))), .string (bs u)]) (by simp [results, Tryd.results28]) rfl ?_
    exact Ret.mk rfl HB.out

end Pt
end Go.Proofs.YtgidkaidljiddaaDoor
